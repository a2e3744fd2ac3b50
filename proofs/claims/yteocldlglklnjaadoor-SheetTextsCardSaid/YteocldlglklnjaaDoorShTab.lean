/- A table's text (sheet.Table), over any iterator of rows of texts whose contract is known. Condition: the text is no longer than 1000000000 bytes. -/
import Derived.Test.YteocldlglklnjaaDoorShRows
namespace Go.Proofs.YteocldlglklnjaaDoor
open Go.RowKit
attribute [local go_sem] Oper.semAt_some

/-- How wide a column is: as its widest text. -/
def wideStep (k : Nat) (z : Nat) (r : List ByteArray) : Nat := match r[k]? with | some t => max z t.size | none => z
def wideK (all : List (List ByteArray)) (k : Nat) : Nat := all.foldl (wideStep k) 0
theorem wideK_snoc (all : List (List ByteArray)) (r : List ByteArray) (k : Nat) : wideK (all ++ [r]) k = wideStep k (wideK all k) r := by unfold wideK; rw [List.foldl_append]; rfl
theorem wideK_take (all : List (List ByteArray)) {j : Nat} (h : j < all.length) (k : Nat) : wideK (all.take (j + 1)) k = wideStep k (wideK (all.take j) k) all[j] := by
  rw [List.take_succ_eq_append_getElem h, wideK_snoc]
theorem wide_le (all : List (List ByteArray)) (k : Nat) : ∀ r ∈ all, ∀ t, r[k]? = some t → t.size ≤ wideK all k := by
  unfold wideK
  suffices ∀ (l : List (List ByteArray)) (z : Nat), z ≤ l.foldl (wideStep k) z ∧ ∀ r ∈ l, ∀ t, r[k]? = some t → t.size ≤ l.foldl (wideStep k) z from (this all 0).2
  intro l
  induction l with
  | nil => intro z; simp
  | cons a l ih =>
    intro z
    rw [List.foldl_cons]
    have h1 := ih (wideStep k z a)
    have h2 : z ≤ wideStep k z a := by unfold wideStep; split <;> omega
    refine ⟨by omega, fun r hr t ht => ?_⟩
    rcases List.mem_cons.1 hr with rfl | hr
    · have h3 : t.size ≤ wideStep k z r := by unfold wideStep; rw [ht]; simp only; omega
      omega
    · exact h1.2 r hr t ht
/-- A cell's text in its column, with two blanks ahead unless it is the first one. -/
def cellT (all : List (List ByteArray)) (k : Nat) (t : ByteArray) : List UInt8 := (if k = 0 then [] else [32, 32]) ++ (List.replicate (wideK all k - t.size) 32 ++ bytesOf t)
def cellsT (all : List (List ByteArray)) (r : List ByteArray) (n : Nat) : List UInt8 := (List.range n).flatMap (fun k => match r[k]? with | some t => cellT all k t | none => [])
def lineT (all : List (List ByteArray)) (nc : Nat) (r : List ByteArray) : List UInt8 := cellsT all r (min r.length nc) ++ [10]
def tableT (all : List (List ByteArray)) (nc : Nat) : List UInt8 := all.flatMap (lineT all nc)
theorem cellsT_succ (all : List (List ByteArray)) (r : List ByteArray) {n : Nat} (h : n < r.length) : cellsT all r (n + 1) = cellsT all r n ++ cellT all n r[n] := by
  unfold cellsT
  rw [List.range_succ, List.flatMap_append]
  simp [List.getElem?_eq_getElem h]
theorem cellsT_prefix (all : List (List ByteArray)) (r : List ByteArray) {m n : Nat} (h : m ≤ n) : cellsT all r m <+: cellsT all r n := by
  unfold cellsT
  obtain ⟨d, rfl⟩ := Nat.exists_eq_add_of_le h
  rw [List.range_add, List.flatMap_append]
  exact ⟨_, rfl⟩
def colL (t : Nat → Int) (M : Nat) : List Value := (List.range M).map (fun i => .int .i64 (t i))
theorem colL_len (t : Nat → Int) (M : Nat) : (colL t M).length = M := by simp [colL]
theorem colL_at (t : Nat → Int) {M i : Nat} (h : i < M) : (colL t M)[i]? = some (.int .i64 (t i)) := by
  unfold colL
  rw [List.getElem?_map, List.getElem?_range h]; rfl
theorem colL_congr {t u : Nat → Int} {M : Nat} (h : ∀ i, i < M → t i = u i) : colL t M = colL u M := by
  unfold colL
  exact List.map_congr_left (fun i hi => by rw [h i (List.mem_range.1 hi)])
theorem colL_set {t u : Nat → Int} (M v : Nat) (z : Int) (h1 : v < M → u v = z) (h2 : ∀ i, i < M → i ≠ v → u i = t i) : (colL t M).toArray.setIfInBounds v (.int .i64 z) = (colL u M).toArray := by
  rw [List.setIfInBounds_toArray]
  congr 1
  apply List.ext_getElem?
  intro i
  rw [List.getElem?_set, colL_len]
  rcases Nat.lt_or_ge i M with hi | hi
  · rw [colL_at _ hi, colL_at _ hi]
    by_cases e : v = i
    · subst e; rw [if_pos rfl, if_pos hi, h1 hi]
    · rw [if_neg e, h2 i hi (fun h => e h.symm)]
  · rw [List.getElem?_eq_none (by rw [colL_len]; exact hi), List.getElem?_eq_none (by rw [colL_len]; exact hi)]
    split
    · rw [if_neg (by omega)]
    · rfl
theorem colL_rep (M : Nat) : (List.replicate M (.int .i64 0) : List Value) = colL (fun _ => 0) M := by
  apply List.ext_getElem?
  intro i
  rcases Nat.lt_or_ge i M with hi | hi
  · rw [colL_at _ hi, List.getElem?_replicate, if_pos hi]
  · rw [List.getElem?_eq_none (by rw [List.length_replicate]; exact hi), List.getElem?_eq_none (by rw [colL_len]; exact hi)]
theorem tab_prefix (all : List (List ByteArray)) (nc : Nat) {j : Nat} (h : j < all.length) {i : Nat} (hi : i ≤ min all[j].length nc) : (all.take j).flatMap (lineT all nc) ++ cellsT all all[j] i <+: tableT all nc := by
  unfold tableT
  rw [drop_flat (lineT all nc) all j h]
  obtain ⟨r, hr⟩ := cellsT_prefix all all[j] hi
  refine ⟨r ++ ([10] ++ (all.drop (j + 1)).flatMap (lineT all nc)), ?_⟩
  rw [show lineT all nc all[j] = cellsT all all[j] (min all[j].length nc) ++ [10] from rfl, ← hr]
  simp only [List.append_assoc]
/-- The widths when some rows, and some cells of the next one, have been looked at. -/
def midW (all : List (List ByteArray)) (j i : Nat) : Nat → Int := fun k => if k < i then (wideK (all.take (j + 1)) k : Int) else (wideK (all.take j) k : Int)

section
variable {P : Program} {ops : Array Oper} {rest : List Oper} {o : Oper} {a : Act} {Q : Exit → Act → World → Prop} {w : World} {F : Fence} {n' : Nat}
/-- 'make([]T, n)', T of one cell, in a walk within a fence. -/
theorem wpListIn_make1 (hgd : o.guard = none) (l c : Operand) (t : TypeId) (hop : o.op = Op.makeSlice t l c) (e : TypeId) (z : Value) (bytes : Nat) (ht : P.underlying t = some (.slice e)) (hinfo : (P.info? e).map (fun i => (i.zero, i.size, i.bytes)) = some (some z, 1, bytes)) (hz1 : z.cells = #[z])
    (n : Nat) (hl : a.eval l = .int .i64 (n : Int)) (hc : a.eval c = .int .i64 (n : Int)) (hbytes : bytes * n ≤ 281474976710656) (h63 : n ≤ 9223372036854775807)
    (h : wpListIn F n' P ops Q rest (a.put o.dst (.slice (some ⟨w.heap.size, 0, none⟩) n n)) (w.alloc (.cells (List.replicate n z).toArray e))) : wpListIn F n' P ops Q (o :: rest) a w := by
  refine wpListIn_plain hgd fun K hK' => ?_
  have hrun := run_make_row' (P := P) t e z bytes ht hinfo hz1 .i64 .i64 n hbytes h63 w
  rw [madeCells_rep] at hrun
  unfold Oper.wpIn
  refine ⟨?_, ?_⟩
  · simp [Oper.about, hop]
  · rw [Oper.semAt_plain F _ _ (by rw [hop]; intro c hc'; cases hc')]
    simp [execOp, hop, hl, hc, hrun, Result.andThen]
    exact hK' _ _ (by simpa using h)
end
section
variable {F : Fence} {n : Nat} {P : Program} {Q : Exit → Act → World → Prop} {a : Act} {w : World}
/-- A region that draws its order, in a walk within a fence, where no yield is called: S need not hold behind the operation p. -/
theorem aj_end {md : Region.Mode} {ops : Array Oper} {p : Nat} {S : World → Prop} {listed : Array Bool} (hr : Region.ready md ops listed = []) (h : Q .normal a w) (fuel : Nat) : wpAnyP P md ops (noOut (noPanic Q)) p S fuel listed a w := ap_done hr (by simpa [noOut, noPanic] using h) fuel
theorem aj_start {id : Nat} {l : List Oper} (p : Nat) (S : World → Prop) (hF : Open F) (hm : P.follows .mixedOrders = true) (hd : noDefer l = true) (hS : S w.drew)
    (h : S w.drew → PanOk (noOut (noPanic Q)) → wpAnyP P .any l.toArray (noOut (noPanic Q)) p S l.toArray.size (Array.replicate l.toArray.size false) a w.drew) : (Code.region id l.toArray true).wpIn F n P Q a w :=
  wpIn_mono (ap_start p S hF hm hd hS h (fun _ _ d _ _ h => by cases d <;> exact h)) noPanic_le
end
set_option maxRecDepth 100000 in
set_option maxHeartbeats 4000000 in
theorem table_any {α : Type} (f : α → List ByteArray) (xs : List α) (A : Option Addr) (cp : Nat) (head : List ByteArray) (g : Nat) (lb : Array Value) (B0 : Nat) (w : World) (hB : B0 ≤ w.heap.size) (hl : xs.length ≤ 100000) (hh : head.length ≤ 100) (hhd : TxtAt w A head)
    (hf : ∀ x ∈ xs, (f x).length ≤ 100) (hbound : (tableT (head :: xs.map f) head.length).length ≤ 1000000000) (hen : ∀ args w, (callFunc g args).run Tryd.prog w = .ok (.enter g args) w)
    (hseq : ∀ W, Keep [] w W → SeqQ Fence.wide 8 Tryd.prog LoN g lb (EncT f) (KpU UsS B0 (W.heap.size + 2)) xs W) :
    Calls Tryd.prog 38 #[.slice A head.length cp, .func (.func g) #[] lb] w fun e w' => ∃ S : ByteArray, e = .returned (.string S) ∧ bytesOf S = tableT (head :: xs.map f) head.length ∧ Keep [] w w' := by
  rw [← callsIn_wide (n := 9)]
  obtain ⟨nc, hnc⟩ : ∃ nc, head.length = nc := ⟨_, rfl⟩
  obtain ⟨W0, hW0⟩ : ∃ W0, ((w.alloc (.cells (Array.replicate nc (.int .i64 0)) 3)).alloc (.cells #[.slice A nc cp] 55)).alloc (.cells #[.slice (some ⟨w.heap.size + 1, 0, none⟩) 1 1] 62) = W0 := ⟨_, rfl⟩
  have b0 : Blk W0 w.heap.size 3 (colL (midW (head :: xs.map f) 0 0) nc).toArray := by
    have e : (colL (midW (head :: xs.map f) 0 0) nc).toArray = Array.replicate nc (.int .i64 0) := by
      rw [show (Array.replicate nc (Value.int .i64 0)) = (List.replicate nc (Value.int .i64 0)).toArray by simp, colL_rep]
      exact congrArg List.toArray (colL_congr (fun i _ => by unfold midW; rw [if_neg (by omega)]; rfl))
    rw [e, ← hW0]; exact ((Blk.new _ _ _).alloc _).alloc _
  have b2 : Blk W0 (w.heap.size + 2) 62 #[.slice (some ⟨w.heap.size + 1, 0, none⟩) 1 1] := by rw [← hW0]; exact Blk.new2 _ _ _ _ _
  have K0 : Keep [] w W0 := by rw [← hW0]; exact (((Keep.refl [] w).alloc _).alloc _).alloc _
  have hz0 : Hid (W0.heap.size = w.heap.size + 3) := by show _ = _; rw [← hW0]; simp
  have o0 : W0.ownsRow (w.heap.size + 1) 55 1 (.slice (some ⟨w.heap.size + 1, 0, none⟩) 1 1) 1 [.slice A nc cp] := by
    have h1 := World.ownsRow_lit (base := w.heap.size + 1) (e := 55) (size := 1) (w.alloc (.cells (Array.replicate nc (.int .i64 0)) 3)) #[.slice A nc cp] 1 (by simp) (by decide) rfl
    rw [World.size_alloc] at h1
    rw [← hW0]
    exact h1.alloc _
  have t0 : TextsAt W0 [.slice A nc cp] [head] := by
    have := (TextsAt.nil W0).snoc (c := cp) (hhd.keep0 K0)
    rw [hnc] at this
    exact this
  have hss := hseq W0 K0
  have HW := Lib.hid hW0
  clear hW0 hseq hhd
  refine callsIn_of_wp_marks Tryd.func38 rfl trivial ?_ rfl
  simp only [Tryd.ntmps38, List.size_toArray, List.length_cons, List.length_nil, Nat.reduceAdd, Nat.reduceSub, Array.replicate_succ, Array.replicate_zero, List.push_toArray, List.append_toArray, List.nil_append, List.cons_append]
  rw [hnc]
  gi_wp2_with (refine wpListIn_make1 rfl (.tmp 16) (.tmp 16) 40 rfl 3 (.int .i64 0) 8 Tryd.underlying40 (by kernel_rfl) rfl nc rfl rfl (by omega) (by omega) ?_)
  rw [HW.out, show w.heap.size + 1 + 1 = w.heap.size + 2 from rfl]
  refine wpIn_rangeQ (F := Fence.wide) (n := 9) (Lo := LoN) (ps := #[21]) rfl (by omega) (gf := g) (lb := lb) rfl trivial hen
    hss KpU.trans (fun W o o' h1 h2 => kpu_put o' (by have := hz0.out; omega) (by omega) h1 h2) (Below.refl _ _) (fun x W args h => by obtain ⟨A, cp, rfl, _⟩ := h; rfl)
    (fun pre W' => ∃ V vs, Blk W' (w.heap.size + 2) 62 #[V] ∧ W'.ownsRow (w.heap.size + 1) 55 1 V (pre.length + 1) vs ∧ Keep [w.heap.size + 2, w.heap.size + 1] W0 W' ∧ TextsAt W' vs (head :: pre.map f))
    (fun _ _ _ => False)
    ?hI (fun _ _ _ _ _ hs _ _ => hs) ⟨_, [.slice A nc cp], b2, o0, Keep.refl _ _, t0⟩
    (fun y a1 W' => ∃ A2 c2, TxtAt W' A2 (f y) ∧ a1 = { tmps := #[.slice A nc cp, .func (.func g) #[] lb, undef, undef, .string ⟨#[]⟩, .slice (some ⟨w.heap.size, 0, none⟩) nc nc, .pointer (some ⟨w.heap.size + 2, 0, none⟩), .slice A2 (f y).length c2, undef, undef, undef, undef, undef, undef, undef,
      .slice A nc cp, .int .i64 (nc : Int), .slice (some ⟨w.heap.size, 0, none⟩) nc nc, .slice A nc cp, .slice (some ⟨w.heap.size + 1, 0, none⟩) 1 1, .func (.func g) #[] lb, .slice A2 (f y).length c2,
      undef, undef, undef, undef, undef, undef, undef, undef, undef, undef, undef, undef, undef, undef, undef, undef, undef, undef, undef, undef, undef, undef, undef, undef, undef, undef, undef, undef, undef, undef, undef, undef, undef, undef, undef, undef, undef, undef, undef, undef, undef, undef, undef, undef, undef, undef, undef, undef, undef, undef, undef, undef, undef, undef, undef, undef, undef, undef, undef, undef, undef, undef, undef, undef, undef, undef, undef, undef, undef, undef, undef, undef, undef, undef, undef, undef, undef], defers := [] })
    ?hPA ?hKa ?assign ?body ?done ?stop
  case hI =>
    rintro pre X Y row ⟨V, vs, h1, h2, h3, h4⟩ hg hr
    have hr' : ∀ r, row = some r → W0.heap.size ≤ r ∧ ∃ o : Obj, X.heap[r]? = some o ∧ o.isCells = false := fun r e => by
      obtain ⟨o, ho, ⟨h0, h⟩ | ⟨_, h⟩⟩ := hr r e
      · exact ⟨h0, o, ho, h⟩
      · exact h.elim
    exact ⟨V, vs, blk_own (β := Unit) _ _ (fun _ => _) () X Y row h1 hg hr', ownsRow_own (β := Unit) _ _ _ (fun _ => V) (fun _ => _) (fun _ => vs) () X Y row h2 hg hr', keep_own (β := Unit) (Nat.le_refl _) () X Y row h3 hg hr', h4.mono (fun _ _ ht => ht.own hg (fun r e => (hr' r e).2))⟩
  case hPA =>
    rintro y a1 _ X Y row ⟨A, cp, h, e⟩ hg hr
    exact ⟨A, cp, h.own hg (fun r e => ⟨_, (hr r e).2.choose_spec.1, (hr r e).2.choose_spec.2⟩), e⟩
  case hKa => exact fun W W2 hz k => kpu_keep0 k (by have := hz0.out; omega)
  case assign =>
    rintro l x args W K hz ⟨A, cp, rfl, ht⟩ hK
    gi_wp2
    exact hK _ _ (Keep.refl _ _) ⟨A, cp, ht, rfl⟩
  case body =>
    rintro l pre x a1 W hz ⟨V, vs, hv, hrow, hK, hT⟩ ⟨A2, c2, ht, rfl⟩ hpre
    have hcv := hv.cell 0
    simp at hcv
    obtain ⟨A0, c0, rfl⟩ := own_shape hrow
    have hne := own_blk_ne hrow hv (by decide)
    have hBw : w.heap.size + 1 ≤ W.heap.size := by have := hK.size; have := hz0.out; omega
    have hlen := hpre.length_le
    simp only [List.length_append, List.length_cons, List.length_nil] at hlen
    gi_wp2_with (first
      | (gi_at_builtin; refine wpListIn_append_one rfl (.tmp 22) (.tmp 24) 62 rfl slice_rowsS hrow rfl rfl (us := [.slice A2 (f x).length c2]) rfl (by simp [Value.oneCell']) hBw (by omega) (by unfold maxLen; omega) ?_; intro v' w1 hown1 hk1 hat1; obtain ⟨A', c', rfl⟩ := own_shape hown1; have hv1 := hv.keep hk1 (by simpa using hne); have hc1 := hv1.cell 0; have hf1 := hv1.frozen 0; simp at hc1))
    obtain ⟨n1, n2, n3⟩ := boxed_append hrow hv (by decide) hk1 hown1
    have hlt' := fun z hz => (hrow.lt z (by simpa using hz)).1
    have hz0o := hz0.out
    have hTy : ∀ z ∈ (w.heap.size + 2) :: (Value.slice A0 (pre.length + 1) c0).ownBlock.toList, ∃ cs t fr, W.heap[z]? = some (.cells cs t fr) ∧ t ≠ 9 := fun z hz => by
      rcases List.mem_cons.1 hz with rfl | hz
      · exact ⟨_, _, _, hv, by decide⟩
      · obtain ⟨cs, fr, h1⟩ := row_typed hrow z hz
        exact ⟨_, _, _, h1, by decide⟩
    refine ⟨n3.from (fun z hz => ?_), kpu_of n3 (fun z hz => ?_) (by have := hK.size; omega), _, vs ++ [.slice A2 (f x).length c2], n1, ?_, ?_, ?_⟩
    · rcases List.mem_cons.1 hz with rfl | hz
      · exact .inl (by omega)
      · exact .inr (own_cells hrow z hz)
    · rcases List.mem_cons.1 hz with rfl | hz
      · exact ⟨by omega, _, _, _, hv, by decide⟩
      · obtain ⟨cs, fr, h1⟩ := row_typed hrow z hz
        exact ⟨by have := hlt' z (by simpa using hz); omega, cs, _, fr, h1, by decide⟩
    · rw [List.length_append]
      exact n2
    · refine hK.trans n3 (fun z hz hzs => ?_)
      rcases List.mem_cons.1 hz with h | h
      · simp [h]
      · have := hlt' z (by simpa using h)
        simp only [List.mem_cons, List.not_mem_nil, or_false]
        omega
    · rw [List.map_append, ← List.cons_append]
      exact (hT.mono (fun _ _ h => h.keepF n3 hTy)).snoc (ht.keepF n3 hTy)
  case stop => exact fun _ _ _ _ _ _ h _ => h.elim
  case done =>
    rintro D Wd hD ⟨V, vs, hv, hrow, hK, hT⟩ hD2
    have hz0o := hz0.out
    have hcv := hv.cell 0
    simp at hcv
    have Kd : Keep [] w Wd := K0.trans hK (fun y hy hlt => by simp at hy; omega)
    have bw := b0.keep hK (by simp)
    have hlt' := fun z hz => (hrow.lt z hz).1
    obtain ⟨A1, c1, rfl⟩ := own_shape hrow
    have hrd := Reads.of_own hrow
    have hf2 : ∀ r ∈ head :: xs.map f, r.length ≤ 100 := fun r hr => by
      rcases List.mem_cons.1 hr with rfl | hr
      · omega
      · obtain ⟨x, hx, rfl⟩ := List.mem_map.1 hr
        exact hf x hx
    obtain ⟨all, hall⟩ : ∃ all, head :: xs.map f = all := ⟨_, rfl⟩
    have hal : xs.length + 1 = all.length := by rw [← hall]; simp
    rw [hall] at hT bw hf2 hbound
    rw [hnc] at hbound
    rw [hal] at hrd hcv
    have hal2 : all.length ≤ 100001 := by omega
    have HALL := Lib.hid hall
    have hgw : w.heap.size < Wd.heap.size := bw.lt
    have HROW : Hid (∀ j (h : j < all.length), ∃ b1 o1 Aj cj, A1 = some ⟨b1, o1, none⟩ ∧ ∀ wr, Keep [w.heap.size] Wd wr → wr.cell? ⟨b1, o1 + j, none⟩ = some (.slice Aj all[j].length cj) ∧ TxtAt wr Aj all[j]) := fun j h => by
      obtain ⟨b1, o1, u, e1, hb1, hu, hc⟩ := hrd.at_ h
      obtain ⟨Aj, cj, e2, ht⟩ := hT.at_ j h
      rw [hu] at e2
      cases e2
      have hne : b1 ≠ w.heap.size := by
        have := hlt' b1 (by rw [e1]; rfl)
        omega
      refine ⟨b1, o1, Aj, cj, e1, fun wr hk => ⟨(hk.cell (p := ⟨b1, o1 + j, none⟩) hb1 (by simpa using hne)).trans hc, ht.keepF hk (fun z hz => ?_)⟩⟩
      obtain rfl : z = w.heap.size := by simpa using hz
      exact ⟨_, _, _, bw, by decide⟩
    have HBX := Lib.hid (fun wr (k : Keep [w.heap.size] Wd wr) => (k.cell (p := ⟨w.heap.size + 2, 0, none⟩) hv.lt (by simp)).trans hcv)
    have HF2 := Lib.hid hf2
    have HBD := Lib.hid hbound
    have HAL := Lib.hid hal2
    have HKd := Lib.hid Kd
    have HD2 := Lib.hid hD2
    clear hf2 hbound hall hT hrd hK hv hrow b0 b2 o0 t0 hss hf hl hen HW hlt' hal K0 hD2 Kd hal2
    gi_wp2
    gi_loopw [28] (fun vj wr => ∃ j : Nat, j ≤ all.length ∧ vj = .int .i64 (j : Int) ∧ Blk wr w.heap.size 3 (colL (midW all j 0) nc).toArray ∧ Keep [w.heap.size] Wd wr) (fun vj _ => all.length - (intOf vj).toNat)
    case atStart => exact ⟨0, Nat.zero_le _, rfl, bw, Keep.refl _ _⟩
    case round =>
      clear bw hcv
      obtain ⟨j, hj, rfl, bw, hkw⟩ := hrel
      have hal2 := HAL.out
      by_cases hlt : j < all.length
      · obtain ⟨b1, o1, Aj, cj, e1, hrow⟩ := HROW.out j hlt
        have hcj := (hrow wr hkw).1
        have hr100 := HF2.out _ (List.getElem_mem hlt)
        have HMT := Lib.hid (wideK_take all hlt)
        have p0 : (0 : Int) ≤ (j : Int) := by omega
        have p1 : (j : Int) < (all.length : Int) := by omega
        have HRW := Lib.hid (fun wr' hk => (hrow wr' hk).2)
        clear hrow
        rw [e1]
        generalize all[j] = R at *
        obtain ⟨m, hm, hm1, hm2, hm3⟩ : ∃ m : Nat, min (R.length : Int) (nc : Int) = (m : Int) ∧ m ≤ R.length ∧ m ≤ nc ∧ (m < nc → m = R.length) := ⟨min R.length nc, by omega, by omega, by omega, by omega⟩
        gi_wp2
        generalize wr = wo at *
        gi_loopw [37] (fun vi wr => ∃ i : Nat, i ≤ m ∧ vi = .int .i64 (i : Int) ∧ Blk wr w.heap.size 3 (colL (midW all j i) nc).toArray ∧ Keep [w.heap.size] Wd wr) (fun vi _ => m - (intOf vi).toNat)
        case atStart => exact ⟨0, Nat.zero_le _, rfl, bw, hkw⟩
        case round =>
          clear bw hkw hcj
          obtain ⟨i, hi, rfl, bw, hkw⟩ := hrel
          by_cases hlti : i < m
          · have hiR : i < R.length := by omega
            have hiN : i < nc := by omega
            obtain ⟨b2, o2, u2, hA2, hb2, hu2, hc2⟩ := (HRW.out wr hkw).rd.at_ hiR
            have e2 : u2 = .string R[i] := by simpa [strsV, List.getElem?_eq_getElem hiR] using hu2.symm
            subst e2
            have cw := bw.at_ (colL_at (midW all j i) hiN)
            have fw := bw.frozen i
            have hF : ∀ w', Keep [] wr w' → w'.cell? ⟨w.heap.size, i, none⟩ = some (.int .i64 (midW all j i i)) ∧ w'.cell? ⟨b2, o2 + i, none⟩ = some (.string R[i]) := fun w' k => ⟨(k.cell (p := ⟨w.heap.size, i, none⟩) bw.lt (by simp)).trans cw, (k.cell (p := ⟨b2, o2 + i, none⟩) hb2 (by simp)).trans hc2⟩
            obtain ⟨z, hz⟩ : ∃ z : Nat, wideK (all.take j) i = z := ⟨_, rfl⟩
            have hmid : midW all j i i = (z : Int) := by unfold midW; rw [if_neg (by omega), hz]
            have hnew : wideK (all.take (j + 1)) i = max z R[i].size := by rw [HMT.out, hz]; unfold wideStep; rw [List.getElem?_eq_getElem hiR]
            have hset : (colL (midW all j i) nc).toArray.setIfInBounds i (.int .i64 (max (z : Int) (R[i].size : Int))) = (colL (midW all j (i + 1)) nc).toArray := colL_set nc i _ (fun _ => by unfold midW; rw [if_pos (by omega), hnew]; omega) (fun k _ hk => by
              unfold midW
              by_cases h : k < i
              · rw [if_pos h, if_pos (by omega)]
              · rw [if_neg h, if_neg (by omega)])
            rw [hmid] at hF
            have q0 : (0 : Int) ≤ (i : Int) := by omega
            have q1 : (i : Int) < (nc : Int) := by omega
            have q2 : (i : Int) < (R.length : Int) := by omega
            have q3 : (i : Int) < (m : Int) := by omega
            have HSET := Lib.hid hset
            have HBW := Lib.hid bw
            clear hu2 hc2 cw hset bw hmid hnew
            rw [hA2]
            generalize R[i] = tx at *
            gi_wp2
            refine aj_start 13 (Keep [] wr) open_wide rfl rfl (Keep.refl _ _).drew (fun hS hPan => ?_)
            (refine ap_val (v := ?_) 0 rfl (by kernel_rfl) (by kernel_rfl) (by kernel_rfl) (by kernel_rfl) (by rfl) hPan ?_ hS ?_; rotate_left; (intro w' hSw; go_simp; try with_reducible rfl); simp only [Act.put, List.setIfInBounds_toArray, List.set_cons_zero, List.set_cons_succ])
            (refine ap_val (v := ?_) 1 rfl (by kernel_rfl) (by kernel_rfl) (by kernel_rfl) (by kernel_rfl) (by rfl) hPan ?_ hS ?_; rotate_left; (intro w' hSw; go_simp; try with_reducible rfl); simp only [Act.put, List.setIfInBounds_toArray, List.set_cons_zero, List.set_cons_succ])
            (refine ap_val (v := ?_) 2 rfl (by kernel_rfl) (by kernel_rfl) (by kernel_rfl) (by kernel_rfl) (by rfl) hPan ?_ hS ?_; rotate_left; (intro w' hSw; go_simp; try with_reducible rfl); simp only [Act.put, List.setIfInBounds_toArray, List.set_cons_zero, List.set_cons_succ])
            (refine ap_val (v := ?_) 3 rfl (by kernel_rfl) (by kernel_rfl) (by kernel_rfl) (by kernel_rfl) (by rfl) hPan ?_ hS ?_; rotate_left; (intro w' hSw; go_simp; try with_reducible rfl); simp only [Act.put, List.setIfInBounds_toArray, List.set_cons_zero, List.set_cons_succ])
            (refine ap_val (v := ?_) 4 rfl (by kernel_rfl) (by kernel_rfl) (by kernel_rfl) (by kernel_rfl) (by rfl) hPan ?_ hS ?_; rotate_left; (intro w' hSw; go_simp; try with_reducible rfl); simp only [Act.put, List.setIfInBounds_toArray, List.set_cons_zero, List.set_cons_succ])
            (refine ap_val (v := ?_) 5 rfl (by kernel_rfl) (by kernel_rfl) (by kernel_rfl) (by kernel_rfl) (by rfl) hPan ?_ hS ?_; rotate_left; (intro w' hSw; obtain ⟨f1,f2⟩ := hF w' hSw; go_simp; try with_reducible rfl); simp only [Act.put, List.setIfInBounds_toArray, List.set_cons_zero, List.set_cons_succ])
            (refine ap_val (v := ?_) 6 rfl (by kernel_rfl) (by kernel_rfl) (by kernel_rfl) (by kernel_rfl) (by rfl) hPan ?_ hS ?_; rotate_left; (intro w' hSw; go_simp; try with_reducible rfl); simp only [Act.put, List.setIfInBounds_toArray, List.set_cons_zero, List.set_cons_succ])
            (refine ap_val (v := ?_) 7 rfl (by kernel_rfl) (by kernel_rfl) (by kernel_rfl) (by kernel_rfl) (by rfl) hPan ?_ hS ?_; rotate_left; (intro w' hSw; go_simp; try with_reducible rfl); simp only [Act.put, List.setIfInBounds_toArray, List.set_cons_zero, List.set_cons_succ])
            (refine ap_val (v := ?_) 8 rfl (by kernel_rfl) (by kernel_rfl) (by kernel_rfl) (by kernel_rfl) (by rfl) hPan ?_ hS ?_; rotate_left; (intro w' hSw; go_simp; try with_reducible rfl); simp only [Act.put, List.setIfInBounds_toArray, List.set_cons_zero, List.set_cons_succ])
            (refine ap_val (v := ?_) 9 rfl (by kernel_rfl) (by kernel_rfl) (by kernel_rfl) (by kernel_rfl) (by rfl) hPan ?_ hS ?_; rotate_left; (intro w' hSw; obtain ⟨f1,f2⟩ := hF w' hSw; go_simp; try with_reducible rfl); simp only [Act.put, List.setIfInBounds_toArray, List.set_cons_zero, List.set_cons_succ])
            (refine ap_val (v := ?_) 10 rfl (by kernel_rfl) (by kernel_rfl) (by kernel_rfl) (by kernel_rfl) (by rfl) hPan ?_ hS ?_; rotate_left; (intro w' hSw; go_simp; try with_reducible rfl); simp only [Act.put, List.setIfInBounds_toArray, List.set_cons_zero, List.set_cons_succ])
            refine ap_val (v := .int .i64 (max (z : Int) (tx.size : Int))) 11 rfl (by kernel_rfl) (by kernel_rfl) (by kernel_rfl) (by kernel_rfl) (by rfl) hPan ?_ hS ?_
            · intro w' hSw; go_simp
            (simp only [Act.put, List.setIfInBounds_toArray, List.set_cons_zero, List.set_cons_succ])
            (refine ap_val (v := ?_) 12 rfl (by kernel_rfl) (by kernel_rfl) (by kernel_rfl) (by kernel_rfl) (by rfl) hPan ?_ hS ?_; rotate_left; (intro w' hSw; go_simp; try with_reducible rfl); simp only [Act.put, List.setIfInBounds_toArray, List.set_cons_zero, List.set_cons_succ])
            have B4 := HBW.out.keep0 hS
            have cU := B4.at_ (colL_at (midW all j i) hiN)
            have fU := B4.frozen i
            refine ap_one 13 (by kernel_rfl) ?_
            refine op_store1 13 rfl (by rfl) rfl rfl rfl (by kernel_rfl) rfl rfl cU fU ?_
            refine ⟨fun h => (by cases h), aj_end (by kernel_rfl) ?_ _⟩
            (simp only [Act.put])
            have n4 := B4.set_ i (.int .i64 (max (z : Int) (tx.size : Int)))
            rw [HSET.out] at n4
            have k4 := (hkw.trans hS (by simp)).trans (keep_set _ w.heap.size i (.int .i64 (max (z : Int) (tx.size : Int)))) (by simp)
            clear hS hPan cU fU B4
            gi_wp2
            go_roundw
            case rel => exact ⟨i + 1, by omega, by go_num, n4, k4⟩
            case measure => simp [intOf] <;> omega
          · obtain rfl : i = m := by omega
            have q3 : decide ((i : Int) < (i : Int)) = false := by simp
            have hcol : (colL (midW all j i) nc).toArray = (colL (midW all (j + 1) 0) nc).toArray := congrArg List.toArray (colL_congr (fun k hk => by
              unfold midW
              rw [if_neg (show ¬ k < 0 by omega)]
              by_cases h : k < i
              · rw [if_pos h]
              · rw [if_neg h, HMT.out]
                unfold wideStep
                rw [List.getElem?_eq_none (by omega)]))
            rw [hcol] at bw
            gi_wp2
            go_roundw
            case rel => exact ⟨j + 1, by omega, by go_num, bw, hkw⟩
            case measure => simp [intOf] <;> omega
      · obtain rfl : j = all.length := by omega
        have hcol : (colL (midW all all.length 0) nc).toArray = (colL (fun k => (wideK all k : Int)) nc).toArray := congrArg List.toArray (colL_congr (fun k _ => by
          unfold midW
          rw [if_neg (by omega), List.take_length]))
        rw [hcol] at bw
        have hbx := HBX.out wr hkw
        have p1 : decide ((all.length : Int) < (all.length : Int)) = false := by simp
        clear hcol
        gi_wp2
        generalize wr = wq at *
        gi_loopw [11, 57] (fun vo vj wr => ∃ j : Nat, j ≤ all.length ∧ vj = .int .i64 (j : Int) ∧ vo = strOf ((all.take j).flatMap (lineT all nc)) ∧ Blk wr w.heap.size 3 (colL (fun k => (wideK all k : Int)) nc).toArray ∧ Keep [w.heap.size] Wd wr) (fun _ vj _ => all.length - (intOf vj).toNat)
        case atStart => exact ⟨0, Nat.zero_le _, rfl, rfl, bw, hkw⟩
        case round =>
          clear bw hkw hbx p1
          obtain ⟨j, hj, rfl, rfl, bw, hkw⟩ := hrel
          by_cases hlt : j < all.length
          · obtain ⟨b1, o1, Aj, cj, e1, hrow⟩ := HROW.out j hlt
            have hcj := (hrow wr hkw).1
            have HRW := Lib.hid (fun wr' hk => (hrow wr' hk).2)
            have hpre := fun i hi => tab_prefix all nc hlt (i := i) hi
            have hwl : ∀ (i : Nat) (t : ByteArray), all[j][i]? = some t → t.size ≤ wideK all i := fun i t ht => wide_le all i _ (List.getElem_mem hlt) t ht
            have hcs := fun i (h : i < all[j].length) => cellsT_succ all all[j] h
            have hln : Hid ((all.take (j + 1)).flatMap (lineT all nc) = (all.take j).flatMap (lineT all nc) ++ (cellsT all all[j] (min all[j].length nc) ++ [10])) := take_flat (lineT all nc) all j hlt
            have p0 : (0 : Int) ≤ (j : Int) := by omega
            have p1 : (j : Int) < (all.length : Int) := by omega
            have hr100 := HF2.out _ (List.getElem_mem hlt)
            clear hrow
            rw [e1]
            generalize all[j] = R at *
            generalize (all.take j).flatMap (lineT all nc) = ql at *
            obtain ⟨m, hm, hm1, hm2, hm3⟩ : ∃ m : Nat, min (R.length : Int) (nc : Int) = (m : Int) ∧ m ≤ R.length ∧ m ≤ nc ∧ min R.length nc = m := ⟨min R.length nc, by omega, by omega, by omega, rfl⟩
            rw [hm3] at hln hpre
            gi_wp2
            generalize wr = wo at *
            gi_loopw [11, 66] (fun vo vi wr => ∃ i : Nat, i ≤ m ∧ vi = .int .i64 (i : Int) ∧ vo = strOf (ql ++ cellsT all R i) ∧ Blk wr w.heap.size 3 (colL (fun k => (wideK all k : Int)) nc).toArray ∧ Keep [w.heap.size] Wd wr) (fun _ vi _ => m - (intOf vi).toNat)
            case atStart => exact ⟨0, Nat.zero_le _, rfl, by simp [cellsT], bw, hkw⟩
            case round =>
              clear bw hkw hcj
              obtain ⟨i, hi, rfl, rfl, bw, hkw⟩ := hrel
              by_cases hlti : i < m
              · have hiR : i < R.length := by omega
                have hiN : i < nc := by omega
                obtain ⟨b2, o2, u2, hA2, hb2, hu2, hc2⟩ := (HRW.out wr hkw).rd.at_ hiR
                have e2 : u2 = .string R[i] := by simpa [strsV, List.getElem?_eq_getElem hiR] using hu2.symm
                subst e2
                have cw := bw.at_ (colL_at (fun k => (wideK all k : Int)) hiN)
                have hF : ∀ w', Keep [] wr w' → w'.cell? ⟨w.heap.size, i, none⟩ = some (.int .i64 (wideK all i : Int)) ∧ w'.cell? ⟨b2, o2 + i, none⟩ = some (.string R[i]) := fun w' k => ⟨(k.cell (p := ⟨w.heap.size, i, none⟩) bw.lt (by simp)).trans cw, (k.cell (p := ⟨b2, o2 + i, none⟩) hb2 (by simp)).trans hc2⟩
                have hle := hwl i R[i] (List.getElem?_eq_getElem hiR)
                have hpr := (hpre (i + 1) (by omega)).length_le
                have hc1 := hcs i hiR
                rw [hc1] at hpr
                have hbd := HBD.out
                simp only [List.length_append] at hpr
                obtain ⟨d, hd⟩ : ∃ d, wideK all i - R[i].size = d := ⟨_, rfl⟩
                unfold cellT at hpr hc1
                simp only [List.length_append, List.length_replicate] at hpr
                rw [hd] at hpr hc1
                have hdd : (wideK all i : Int) - (R[i].size : Int) = (d : Int) := by omega
                have HC1 := Lib.hid hc1
                have HBW := Lib.hid bw
                have q0 : (0 : Int) ≤ (i : Int) := by omega
                have q1 : (i : Int) < (nc : Int) := by omega
                have q2 : (i : Int) < (R.length : Int) := by omega
                have q3 : (i : Int) < (m : Int) := by omega
                have hbl : (bytesOf R[i]).length = R[i].size := bytesOf_len _
                have hlq : ql.length + (cellsT all R i).length ≤ 1000000000 := by omega
                have hlt2 : R[i].size ≤ 1000000000 := by omega
                have hld : d ≤ 1000000000 := by omega
                clear hpr hu2 hc2 cw bw hc1 hd hle hbl hcs hpre hwl
                rw [hA2]
                generalize R[i] = tx at *
                generalize hgq : ql ++ cellsT all R i = qi at *
                have hqi : qi.length ≤ 1000000000 := by rw [← hgq, List.length_append]; omega
                by_cases hi0 : i = 0
                · have hg : decide ((0 : Int) < (i : Int)) = false := decide_eq_false (by omega)
                  have hg2 : decide (0 < i) = false := decide_eq_false (by omega)
                  have HI0 := Lib.hid hi0
                  clear hi0
                  gi_wp2
                  refine ai_start (Keep [] wr) rfl rfl (Keep.refl _ _).drew (fun hND hS hPan => ?_)
                  (refine ai_val (v := ?_) 0 rfl open_wide hND (by kernel_rfl) (by kernel_rfl) (by kernel_rfl) (by rfl) hPan ?_ hS ?_; rotate_left; (intro w' hSw; go_simp; try with_reducible rfl); simp only [Act.put, List.setIfInBounds_toArray, List.set_cons_zero, List.set_cons_succ])
                  (refine ai_val (v := ?_) 1 rfl open_wide hND (by kernel_rfl) (by kernel_rfl) (by kernel_rfl) (by rfl) hPan ?_ hS ?_; rotate_left; (intro w' hSw; go_simp; try with_reducible rfl); simp only [Act.put, List.setIfInBounds_toArray, List.set_cons_zero, List.set_cons_succ])
                  (refine ai_val (v := ?_) 2 rfl open_wide hND (by kernel_rfl) (by kernel_rfl) (by kernel_rfl) (by rfl) hPan ?_ hS ?_; rotate_left; (intro w' hSw; go_simp; try with_reducible rfl); simp only [Act.put, List.setIfInBounds_toArray, List.set_cons_zero, List.set_cons_succ])
                  (refine ai_val (v := ?_) 3 rfl open_wide hND (by kernel_rfl) (by kernel_rfl) (by kernel_rfl) (by rfl) hPan ?_ hS ?_; rotate_left; (intro w' hSw; obtain ⟨f1,f2⟩ := hF w' hSw; go_simp; try with_reducible rfl); simp only [Act.put, List.setIfInBounds_toArray, List.set_cons_zero, List.set_cons_succ])
                  (refine ai_val (v := ?_) 4 rfl open_wide hND (by kernel_rfl) (by kernel_rfl) (by kernel_rfl) (by rfl) hPan ?_ hS ?_; rotate_left; (intro w' hSw; go_simp; try with_reducible rfl); simp only [Act.put, List.setIfInBounds_toArray, List.set_cons_zero, List.set_cons_succ])
                  (refine ai_val (v := ?_) 5 rfl open_wide hND (by kernel_rfl) (by kernel_rfl) (by kernel_rfl) (by rfl) hPan ?_ hS ?_; rotate_left; (intro w' hSw; go_simp; try with_reducible rfl); simp only [Act.put, List.setIfInBounds_toArray, List.set_cons_zero, List.set_cons_succ])
                  (refine ai_val (v := ?_) 6 rfl open_wide hND (by kernel_rfl) (by kernel_rfl) (by kernel_rfl) (by rfl) hPan ?_ hS ?_; rotate_left; (intro w' hSw; go_simp; try with_reducible rfl); simp only [Act.put, List.setIfInBounds_toArray, List.set_cons_zero, List.set_cons_succ])
                  (refine ai_val (v := ?_) 7 rfl open_wide hND (by kernel_rfl) (by kernel_rfl) (by kernel_rfl) (by rfl) hPan ?_ hS ?_; rotate_left; (intro w' hSw; obtain ⟨f1,f2⟩ := hF w' hSw; go_simp; try with_reducible rfl); simp only [Act.put, List.setIfInBounds_toArray, List.set_cons_zero, List.set_cons_succ])
                  (refine ai_val (v := ?_) 8 rfl open_wide hND (by kernel_rfl) (by kernel_rfl) (by kernel_rfl) (by rfl) hPan ?_ hS ?_; rotate_left; (intro w' hSw; go_simp; try with_reducible rfl); simp only [Act.put, List.setIfInBounds_toArray, List.set_cons_zero, List.set_cons_succ])
                  refine ai_val (v := .int .i64 (d : Int)) 9 rfl open_wide hND (by kernel_rfl) (by kernel_rfl) (by kernel_rfl) (by rfl) hPan ?_ hS ?_
                  · intro w' hSw; go_simp; exact IntWalk.i64_in _ (by omega)
                  (simp only [Act.put, List.setIfInBounds_toArray, List.set_cons_zero, List.set_cons_succ])
                  (refine ai_val (v := ?_) 10 rfl open_wide hND (by kernel_rfl) (by kernel_rfl) (by kernel_rfl) (by rfl) hPan ?_ hS ?_; rotate_left; (intro w' hSw; go_simp; try with_reducible rfl); simp only [Act.put, List.setIfInBounds_toArray, List.set_cons_zero, List.set_cons_succ])
                  refine ai_end (by kernel_rfl) ?_ _
                  have bw2 := HBW.out.keep0 hS
                  have hkw2 := hkw.trans hS (by simp)
                  have hc2 := (hF _ hS).2
                  have hb2' : b2 < wr.drew.heap.size := hb2
                  clear hS hPan hND hF
                  generalize wr.drew = wd at *
                  gi_wp2
                  obtain ⟨Q1, hQ1⟩ : ∃ Q1, qi = Q1 := ⟨_, rfl⟩
                  have hlQ : Q1.length ≤ 1000000002 := by rw [← hQ1]; first | omega | (simp; omega)
                  have HQ1 := Lib.hid hQ1
                  rw [hQ1]
                  clear hQ1
                  gi_loopw [11, 83] (fun vo vp wr => ∃ p : Nat, p ≤ d ∧ vp = .int .i64 (p : Int) ∧ vo = strOf (Q1 ++ List.replicate p 32) ∧ wd = wr) (fun _ vp _ => d - (intOf vp).toNat)
                  case atStart => exact ⟨0, Nat.zero_le _, rfl, by simp, rfl⟩
                  case round =>
                    obtain ⟨p, hp, rfl, rfl, rfl⟩ := hrel
                    by_cases hltp : p < d
                    · have had : ∀ W, (binOp .add 9 (strOf (Q1 ++ List.replicate p 32)) (.string ⟨#[32]⟩)).run Tryd.prog W = .ok (strOf ((Q1 ++ List.replicate p 32) ++ [32])) W := fun W => run_add_str (P := Tryd.prog) 9 _ [32] (by simp; omega) W
                      have r0 : decide ((p : Int) < (d : Int)) = true := decide_eq_true (by omega)
                      gi_wp2
                      go_roundw
                      case rel => exact ⟨p + 1, by omega, by go_num, by rw [List.replicate_succ'], trivial⟩
                      case measure => simp [intOf] <;> omega
                    · obtain rfl : p = d := by omega
                      have r0 : decide ((p : Int) < (p : Int)) = false := by simp
                      have had : ∀ W, (binOp .add 9 (strOf (Q1 ++ List.replicate p 32)) (.string tx)).run Tryd.prog W = .ok (strOf ((Q1 ++ List.replicate p 32) ++ bytesOf tx)) W := fun W => run_add_str (P := Tryd.prog) 9 _ (bytesOf tx) (by have := bytesOf_len tx; simp; omega) W
                      have HFIN : Hid ((Q1 ++ List.replicate p 32) ++ bytesOf tx = ql ++ cellsT all R (i + 1)) := by
                        show _ = _
                        rw [← HQ1.out, HC1.out, if_pos HI0.out, ← hgq]
                        simp only [List.append_assoc, List.nil_append]
                      gi_wp2
                      go_roundw
                      case rel => exact ⟨i + 1, by omega, by go_num, by rw [← HFIN.out]; simp only [List.append_assoc], bw2, hkw2⟩
                      case measure => simp [intOf] <;> omega
                · have hg : decide ((0 : Int) < (i : Int)) = true := decide_eq_true (by omega)
                  have hg2 : decide (0 < i) = true := decide_eq_true (by omega)
                  have HI0 := Lib.hid hi0
                  clear hi0
                  have had : ∀ W, (binOp .add 9 (strOf qi) (.string ⟨#[32, 32]⟩)).run Tryd.prog W = .ok (strOf (qi ++ [32, 32])) W := fun W => run_add_str (P := Tryd.prog) 9 qi [32, 32] (by simp; omega) W
                  gi_wp2
                  refine ai_start (Keep [] wr) rfl rfl (Keep.refl _ _).drew (fun hND hS hPan => ?_)
                  (refine ai_val (v := ?_) 0 rfl open_wide hND (by kernel_rfl) (by kernel_rfl) (by kernel_rfl) (by rfl) hPan ?_ hS ?_; rotate_left; (intro w' hSw; go_simp; try with_reducible rfl); simp only [Act.put, List.setIfInBounds_toArray, List.set_cons_zero, List.set_cons_succ])
                  (refine ai_val (v := ?_) 1 rfl open_wide hND (by kernel_rfl) (by kernel_rfl) (by kernel_rfl) (by rfl) hPan ?_ hS ?_; rotate_left; (intro w' hSw; go_simp; try with_reducible rfl); simp only [Act.put, List.setIfInBounds_toArray, List.set_cons_zero, List.set_cons_succ])
                  (refine ai_val (v := ?_) 2 rfl open_wide hND (by kernel_rfl) (by kernel_rfl) (by kernel_rfl) (by rfl) hPan ?_ hS ?_; rotate_left; (intro w' hSw; go_simp; try with_reducible rfl); simp only [Act.put, List.setIfInBounds_toArray, List.set_cons_zero, List.set_cons_succ])
                  (refine ai_val (v := ?_) 3 rfl open_wide hND (by kernel_rfl) (by kernel_rfl) (by kernel_rfl) (by rfl) hPan ?_ hS ?_; rotate_left; (intro w' hSw; obtain ⟨f1,f2⟩ := hF w' hSw; go_simp; try with_reducible rfl); simp only [Act.put, List.setIfInBounds_toArray, List.set_cons_zero, List.set_cons_succ])
                  (refine ai_val (v := ?_) 4 rfl open_wide hND (by kernel_rfl) (by kernel_rfl) (by kernel_rfl) (by rfl) hPan ?_ hS ?_; rotate_left; (intro w' hSw; go_simp; try with_reducible rfl); simp only [Act.put, List.setIfInBounds_toArray, List.set_cons_zero, List.set_cons_succ])
                  (refine ai_val (v := ?_) 5 rfl open_wide hND (by kernel_rfl) (by kernel_rfl) (by kernel_rfl) (by rfl) hPan ?_ hS ?_; rotate_left; (intro w' hSw; go_simp; try with_reducible rfl); simp only [Act.put, List.setIfInBounds_toArray, List.set_cons_zero, List.set_cons_succ])
                  (refine ai_val (v := ?_) 6 rfl open_wide hND (by kernel_rfl) (by kernel_rfl) (by kernel_rfl) (by rfl) hPan ?_ hS ?_; rotate_left; (intro w' hSw; go_simp; try with_reducible rfl); simp only [Act.put, List.setIfInBounds_toArray, List.set_cons_zero, List.set_cons_succ])
                  (refine ai_val (v := ?_) 7 rfl open_wide hND (by kernel_rfl) (by kernel_rfl) (by kernel_rfl) (by rfl) hPan ?_ hS ?_; rotate_left; (intro w' hSw; obtain ⟨f1,f2⟩ := hF w' hSw; go_simp; try with_reducible rfl); simp only [Act.put, List.setIfInBounds_toArray, List.set_cons_zero, List.set_cons_succ])
                  (refine ai_val (v := ?_) 8 rfl open_wide hND (by kernel_rfl) (by kernel_rfl) (by kernel_rfl) (by rfl) hPan ?_ hS ?_; rotate_left; (intro w' hSw; go_simp; try with_reducible rfl); simp only [Act.put, List.setIfInBounds_toArray, List.set_cons_zero, List.set_cons_succ])
                  refine ai_val (v := .int .i64 (d : Int)) 9 rfl open_wide hND (by kernel_rfl) (by kernel_rfl) (by kernel_rfl) (by rfl) hPan ?_ hS ?_
                  · intro w' hSw; go_simp; exact IntWalk.i64_in _ (by omega)
                  (simp only [Act.put, List.setIfInBounds_toArray, List.set_cons_zero, List.set_cons_succ])
                  (refine ai_val (v := ?_) 10 rfl open_wide hND (by kernel_rfl) (by kernel_rfl) (by kernel_rfl) (by rfl) hPan ?_ hS ?_; rotate_left; (intro w' hSw; go_simp; try with_reducible rfl); simp only [Act.put, List.setIfInBounds_toArray, List.set_cons_zero, List.set_cons_succ])
                  refine ai_end (by kernel_rfl) ?_ _
                  have bw2 := HBW.out.keep0 hS
                  have hkw2 := hkw.trans hS (by simp)
                  have hc2 := (hF _ hS).2
                  have hb2' : b2 < wr.drew.heap.size := hb2
                  clear hS hPan hND hF
                  generalize wr.drew = wd at *
                  gi_wp2
                  obtain ⟨Q1, hQ1⟩ : ∃ Q1, qi ++ [32, 32] = Q1 := ⟨_, rfl⟩
                  have hlQ : Q1.length ≤ 1000000002 := by rw [← hQ1]; first | omega | (simp; omega)
                  have HQ1 := Lib.hid hQ1
                  rw [hQ1]
                  clear hQ1
                  gi_loopw [11, 83] (fun vo vp wr => ∃ p : Nat, p ≤ d ∧ vp = .int .i64 (p : Int) ∧ vo = strOf (Q1 ++ List.replicate p 32) ∧ wd = wr) (fun _ vp _ => d - (intOf vp).toNat)
                  case atStart => exact ⟨0, Nat.zero_le _, rfl, by simp, rfl⟩
                  case round =>
                    obtain ⟨p, hp, rfl, rfl, rfl⟩ := hrel
                    by_cases hltp : p < d
                    · have had : ∀ W, (binOp .add 9 (strOf (Q1 ++ List.replicate p 32)) (.string ⟨#[32]⟩)).run Tryd.prog W = .ok (strOf ((Q1 ++ List.replicate p 32) ++ [32])) W := fun W => run_add_str (P := Tryd.prog) 9 _ [32] (by simp; omega) W
                      have r0 : decide ((p : Int) < (d : Int)) = true := decide_eq_true (by omega)
                      gi_wp2
                      go_roundw
                      case rel => exact ⟨p + 1, by omega, by go_num, by rw [List.replicate_succ'], trivial⟩
                      case measure => simp [intOf] <;> omega
                    · obtain rfl : p = d := by omega
                      have r0 : decide ((p : Int) < (p : Int)) = false := by simp
                      have had : ∀ W, (binOp .add 9 (strOf (Q1 ++ List.replicate p 32)) (.string tx)).run Tryd.prog W = .ok (strOf ((Q1 ++ List.replicate p 32) ++ bytesOf tx)) W := fun W => run_add_str (P := Tryd.prog) 9 _ (bytesOf tx) (by have := bytesOf_len tx; simp; omega) W
                      have HFIN : Hid ((Q1 ++ List.replicate p 32) ++ bytesOf tx = ql ++ cellsT all R (i + 1)) := by
                        show _ = _
                        rw [← HQ1.out, HC1.out, if_neg HI0.out, ← hgq]
                        simp only [List.append_assoc]
                      gi_wp2
                      go_roundw
                      case rel => exact ⟨i + 1, by omega, by go_num, by rw [← HFIN.out]; simp only [List.append_assoc], bw2, hkw2⟩
                      case measure => simp [intOf] <;> omega
              · obtain rfl : i = m := by omega
                have q3 : decide ((i : Int) < (i : Int)) = false := by simp
                have hpr := (hpre i (Nat.le_refl _)).length_le
                have hbd := HBD.out
                have had : ∀ W, (binOp .add 9 (strOf (ql ++ cellsT all R i)) (.string ⟨#[10]⟩)).run Tryd.prog W = .ok (strOf ((ql ++ cellsT all R i) ++ [10])) W := fun W => run_add_str (P := Tryd.prog) 9 _ [10] (by simp only [List.length_cons, List.length_nil]; omega) W
                clear hpr hpre hwl hcs hbd
                gi_wp2
                go_roundw
                case rel => exact ⟨j + 1, by omega, by go_num, by rw [hln.out], bw, hkw⟩
                case measure => simp [intOf] <;> omega
          · obtain rfl : j = all.length := by omega
            have p1 : decide ((all.length : Int) < (all.length : Int)) = false := by simp
            have HTT : Hid ((all.take all.length).flatMap (lineT all nc) = tableT (head :: xs.map f) nc) := by
              show _ = _
              rw [List.take_length, HALL.out]; rfl
            gi_wp2
            have hD3 := (hkw.block D (Array.getElem?_eq_some_iff.1 HD2.out).1 (by simp; omega)).trans HD2.out
            refine ⟨by simp, .inl ⟨_, _, rfl, run_takeDeferred hD3, ?_⟩⟩
            refine ⟨_, by simp [results, Tryd.results38, go_sem]; rfl, _, rfl, ?_, ?_⟩
            · rw [← HTT.out, List.take_length]
            · exact (HKd.out.trans hkw (fun y hy hlt => by simp at hy <;> omega)).trans (keep_putObj wr D _) (fun y hy hlt => by simp at hy <;> omega)
end Go.Proofs.YteocldlglklnjaaDoor
