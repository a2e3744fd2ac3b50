/- A step that is being read, in memory: its block, and its two slices, which are its own; a piece read into it. Condition: the piece is no longer than a text of the law's. A piece read into a step: the program's part, walked. Conditions: the step's two slices are its own, and hold less than a million; the piece is no longer than a million bytes. -/
import Derived.Test.YtoepkhkaifgddaaStSect
import Derived.Test.YtoepkhkaifgddaaDigWord
import Derived.Test.YtoepkhkaifgddaaRangeB
import Derived.Deep.DeepCutAuto
namespace Go.Proofs.Ytoepkhkaifgddaa
open Go.RowKit

/-- A piece as a part of a step. -/
def partP (s : Stp) (c : Int) (p : ByteArray) : Stp × Bool :=
  if c = 97 then ({ s with a := (readP (bytesOf p)).1 }, (readP (bytesOf p)).2 == 0)
  else if c = 110 then ({ s with n := (readP (bytesOf p)).1 }, (readP (bytesOf p)).2 == 0)
  else if c = 104 then ({ s with n := ((readWP (bytesOf p)).1 : Int) }, (readWP (bytesOf p)).2 == 0)
  else if c = 115 then ({ s with secs := s.secs ++ [(sectP p).1] }, (sectP p).2)
  else ({ s with words := s.words ++ [(readWP (bytesOf p)).1] }, (readWP (bytesOf p)).2 == 0)
def ownCells (s : Stp) (vs vw : Value) : List Value := [.int .i64 s.kind, .int .i64 s.a, .int .i64 s.n, vs, vw]
/-- The step s in the block B, its slices rows of its own from block b0 on. -/
structure OwnStp (w : World) (b0 B : Nat) (s : Stp) (vs vw : Value) : Prop where
  blk : Blk w B 45 (ownCells s vs vw).toArray
  secs : w.ownsRow b0 85 3 vs s.secs.length (s.secs.flatMap sctCells)
  words : w.ownsRow b0 77 1 vw s.words.length (u32s s.words)
def OwnSt (w : World) (b0 B : Nat) (s : Stp) : Prop := ∃ vs vw, OwnStp w b0 B s vs vw
section
variable {w w' : World} {b0 B : Nat} {s : Stp} {vs vw : Value}
theorem OwnStp.ne_secs (h : OwnStp w b0 B s vs vw) : vs.ownBlock ≠ some B := unown_ne h.secs h.blk (by decide)
theorem OwnStp.ne_words (h : OwnStp w b0 B s vs vw) : vw.ownBlock ≠ some B := unown_ne h.words h.blk (by decide)
theorem OwnStp.keep0 (h : OwnStp w b0 B s vs vw) (k : Keep [] w w') : OwnStp w' b0 B s vs vw := ⟨h.blk.keep0 k, own_keep0 h.secs k, own_keep0 h.words k⟩
/-- One of its numbers is written. -/
theorem OwnStp.num (h : OwnStp w b0 B s vs vw) (i : Nat) (u : Value) (s' : Stp) (e : (ownCells s vs vw).toArray.setIfInBounds i u = (ownCells s' vs vw).toArray) (e1 : s'.secs = s.secs) (e2 : s'.words = s.words) :
    OwnStp (w.setCell ⟨B, i, none⟩ u) b0 B s' vs vw := by
  have k : Keep [B] w (w.setCell ⟨B, i, none⟩ u) := (Keep.refl _ w).setCell (by simp) u
  refine ⟨?_, ?_, ?_⟩
  · have := h.blk.set_ i u
    rwa [e] at this
  · rw [e1]
    exact own_keep h.secs k (fun g hg hm => h.ne_secs (by simp at hm; rw [hg, hm]))
  · rw [e2]
    exact own_keep h.words k (fun g hg hm => h.ne_words (by simp at hm; rw [hg, hm]))
theorem row_apart {w : World} {b0 e1 e2 z1 z2 n1 n2 : Nat} {v1 v2 : Value} {x1 x2 : List Value} (h1 : w.ownsRow b0 e1 z1 v1 n1 x1) (h2 : w.ownsRow b0 e2 z2 v2 n2 x2) (hne : e1 ≠ e2) : ∀ g, v2.ownBlock = some g → g ∉ v1.ownBlock.toList := by
  intro g hg hm
  obtain ⟨c1, f1, q1⟩ := row_typed h1 g hm
  obtain ⟨c2, f2, q2⟩ := row_typed h2 g (by rw [hg]; simp)
  rw [q1] at q2
  cases q2
  exact hne rfl
/-- A section is appended. -/
theorem OwnStp.sec (h : OwnStp w b0 B s vs vw) {w1 : World} {v' : Value} (x : Sct) (h1 : w1.ownsRow b0 85 3 v' (s.secs.length + 1) (s.secs.flatMap sctCells ++ sctCells x)) (k : Keep vs.ownBlock.toList w w1) :
    OwnStp (w1.setCell ⟨B, 3, none⟩ v') b0 B { s with secs := s.secs ++ [x] } v' vw := by
  have hb : Blk w1 B 45 (ownCells s vs vw).toArray := h.blk.keep k (fun hm => h.ne_secs (by simpa using hm))
  have hw := own_keep h.words k (row_apart h.secs h.words (by decide))
  have k2 : Keep [B] w1 (w1.setCell ⟨B, 3, none⟩ v') := (Keep.refl _ w1).setCell (by simp) v'
  refine ⟨hb.set_ 3 v', ?_, own_keep hw k2 (fun g hg hm => h.ne_words (by simp at hm; rw [hg, hm]))⟩
  have := own_keep h1 k2 (fun g hg hm => unown_ne h1 hb (by decide) (by simp at hm; rw [hg, hm]))
  simpa using this
/-- A word is appended. -/
theorem OwnStp.word (h : OwnStp w b0 B s vs vw) {w1 : World} {v' : Value} (x : Nat) (h1 : w1.ownsRow b0 77 1 v' (s.words.length + 1) (u32s s.words ++ [.int .u32 (x : Int)])) (k : Keep vw.ownBlock.toList w w1) :
    OwnStp (w1.setCell ⟨B, 4, none⟩ v') b0 B { s with words := s.words ++ [x] } vs v' := by
  have hb : Blk w1 B 45 (ownCells s vs vw).toArray := h.blk.keep k (fun hm => h.ne_words (by simpa using hm))
  have hw := own_keep h.secs k (row_apart h.words h.secs (by decide))
  have k2 : Keep [B] w1 (w1.setCell ⟨B, 4, none⟩ v') := (Keep.refl _ w1).setCell (by simp) v'
  refine ⟨hb.set_ 4 v', own_keep hw k2 (fun g hg hm => h.ne_secs (by simp at hm; rw [hg, hm])), ?_⟩
  have := own_keep h1 k2 (fun g hg hm => unown_ne h1 hb (by decide) (by simp at hm; rw [hg, hm]))
  simpa [u32s] using this
end
end Go.Proofs.Ytoepkhkaifgddaa

namespace Go.Proofs.Ytoepkhkaifgddaa
open Go.RowKit

def PartPost (w : World) (b0 B : Nat) (s : Stp) (b : Bool) (e : Ending) (w' : World) : Prop :=
  e = .returned (.bool b) ∧ OwnSt w' b0 B s ∧ KpU [45, 85, 77] b0 b0 w w'
theorem slice_sct : SliceOf Try.prog 42 85 3 24 := ⟨Try.underlying42, by kernel_rfl, by decide⟩
theorem slice_u32S : SliceOf Try.prog 43 77 1 4 := ⟨Try.underlying43, by kernel_rfl, by decide⟩
theorem row_lt {w : World} {b0 e size n : Nat} {v : Value} {xs : List Value} (h : w.ownsRow b0 e size v n xs) : ∀ y, y ∈ v.ownBlock.toList → y < w.heap.size := by
  intro y hy
  obtain ⟨cs, fr, q⟩ := row_typed h y hy
  exact (Array.getElem?_eq_some_iff.1 q).1
theorem row_base {w : World} {b0 e size n : Nat} {v : Value} {xs : List Value} (h : w.ownsRow b0 e size v n xs) : ∀ y, y ∈ v.ownBlock.toList → b0 ≤ y := by
  intro y hy
  rcases h.2 with ⟨rfl, _⟩ | ⟨g', cap, cur, rfl, hb, _⟩
  · simp [Value.ownBlock] at hy
  · simp [Value.ownBlock] at hy
    subst hy
    exact hb
theorem readWP_lt (l : List UInt8) : (readWP l).1 < 4294967296 := by
  unfold readWP
  split
  · exact hexVal_lt _ _ rfl
  · decide
theorem OwnStp.kpu {w w' : World} {b0 B : Nat} {s : Stp} {vs vw : Value} (h : OwnStp w b0 B s vs vw) (hB : b0 ≤ B) (k : Keep (B :: (vs.ownBlock.toList ++ vw.ownBlock.toList)) w w') : KpU [45, 85, 77] b0 b0 w w' := by
  refine kpu_of k (fun y hy => ?_) (by have := h.blk.lt; omega)
  rcases List.mem_cons.1 hy with rfl | hy
  · exact ⟨hB, _, _, _, h.blk, by simp⟩
  · rcases List.mem_append.1 hy with hy | hy
    · obtain ⟨cs, fr, q⟩ := row_typed h.secs y hy
      exact ⟨row_base h.secs y hy, cs, _, fr, q, by simp⟩
    · obtain ⟨cs, fr, q⟩ := row_typed h.words y hy
      exact ⟨row_base h.words y hy, cs, _, fr, q, by simp⟩

set_option maxRecDepth 100000 in
theorem part_num (w : World) (b0 B : Nat) (s : Stp) (c : Int) (p : ByteArray) (hc : c = 97 ∨ c = 110) (h : OwnSt w b0 B s) (hB : b0 ≤ B) (hp : p.size ≤ 1000000) :
    Calls Try.prog 49 #[.pointer (some ⟨B, 0, none⟩), .int .u8 c, .string p] w (PartPost w b0 B (partP s c p).1 (partP s c p).2) := by
  obtain ⟨vs, vw, hO⟩ := h
  have HR := fun W => Lib.hid (read_any p W (by unfold maxLen; omega))
  have hF1 : OwnSt (w.setCell ⟨B, 1, none⟩ (.int .i64 (readP (bytesOf p)).1)) b0 B { s with a := (readP (bytesOf p)).1 } := ⟨vs, vw, hO.num 1 _ _ rfl rfl rfl⟩
  have hF2 : OwnSt (w.setCell ⟨B, 2, none⟩ (.int .i64 (readP (bytesOf p)).1)) b0 B { s with n := (readP (bytesOf p)).1 } := ⟨vs, vw, hO.num 2 _ _ rfl rfl rfl⟩
  have hK : ∀ i u, KpU [45, 85, 77] b0 b0 w (w.setCell ⟨B, i, none⟩ u) := fun i u => hO.kpu hB ((Keep.refl _ w).setCell (by simp) u)
  have hb := hO.blk
  unfold PartPost partP
  clear hO
  unfold ownCells at hb
  have e1 : w.cell? ⟨B, 1, none⟩ = some (.int .i64 s.a) := hb.cell 1
  have e2 : w.cell? ⟨B, 2, none⟩ = some (.int .i64 s.n) := hb.cell 2
  have e3 := hb.frozen 1
  have e4 := hb.frozen 2
  clear hb
  have HF1 := Lib.hid hF1
  have HF2 := Lib.hid hF2
  have HK := Lib.hid hK
  clear hF1 hF2 hK
  generalize readP (bytesOf p) = r at *
  have hr : (r.2 == 0) = true ∨ (r.2 == 0) = false := by cases (r.2 == 0) <;> simp
  rcases hc with rfl | rfl
  · go_enter Try.func49, Try.ntmps49
    go_wp2_with fail
    refine (HR _).out.mono ?_
    rintro e w1 ⟨rfl, rfl⟩
    rcases hr with g1 | g1
    all_goals
      go_wp2
      go_ret
      exact ⟨by simp [g1], HF1.out, HK.out _ _⟩
  · go_enter Try.func49, Try.ntmps49
    go_wp2_with fail
    refine (HR _).out.mono ?_
    rintro e w1 ⟨rfl, rfl⟩
    rcases hr with g1 | g1
    all_goals
      go_wp2
      go_ret
      exact ⟨by simp [g1], HF2.out, HK.out _ _⟩
set_option maxRecDepth 100000 in
theorem part_bits (w : World) (b0 B : Nat) (s : Stp) (p : ByteArray) (h : OwnSt w b0 B s) (hB : b0 ≤ B) (hp : p.size ≤ 1000000) :
    Calls Try.prog 49 #[.pointer (some ⟨B, 0, none⟩), .int .u8 104, .string p] w (PartPost w b0 B (partP s 104 p).1 (partP s 104 p).2) := by
  have HR := fun W => Lib.hid (readWord_any p W (by unfold maxLen; omega))
  unfold PartPost partP
  have hlt : (readWP (bytesOf p)).1 < 4294967296 := readWP_lt _
  have hk : Keep [] w w := Keep.refl _ _
  generalize readWP (bytesOf p) = r at *
  obtain ⟨r1, r2⟩ := r
  dsimp only at *
  have hr : (r2 == 0) = true ∨ (r2 == 0) = false := by cases (r2 == 0) <;> simp
  go_enter Try.func49, Try.ntmps49
  go_wp2_with fail
  refine (HR _).out.mono ?_
  rintro e w1 ⟨rfl, k1⟩
  obtain ⟨vs, vw, hO⟩ := h
  have hO1 := hO.keep0 k1
  have HK1 := Lib.hid k1
  have hb := hO1.blk
  unfold ownCells at hb
  have e2 : w1.cell? ⟨B, 2, none⟩ = some (.int .i64 s.n) := hb.cell 2
  have e4 := hb.frozen 2
  have HF : Hid (OwnSt (w1.setCell ⟨B, 2, none⟩ (.int .i64 (r1 : Int))) b0 B { s with n := (r1 : Int) }) := ⟨vs, vw, hO1.num 2 _ _ rfl rfl rfl⟩
  have HK : Hid (KpU [45, 85, 77] b0 b0 w (w1.setCell ⟨B, 2, none⟩ (.int .i64 (r1 : Int)))) := hO.kpu hB ((k1.mono (by simp)).setCell (by simp) _)
  clear hb hO hO1 k1 hk
  rcases hr with g1 | g1
  all_goals
    go_wp2
    go_ret
    exact ⟨by simp [g1], HF.out, HK.out⟩
set_option maxRecDepth 100000 in
theorem part_sec (w : World) (b0 B : Nat) (s : Stp) (p : ByteArray) (h : OwnSt w b0 B s) (hB : b0 ≤ B) (hp : p.size ≤ 1000000) (hl : s.secs.length ≤ 1000000) :
    Calls Try.prog 49 #[.pointer (some ⟨B, 0, none⟩), .int .u8 115, .string p] w (PartPost w b0 B (partP s 115 p).1 (partP s 115 p).2) := by
  have HR := fun W => Lib.hid (sect_any p W hp)
  unfold PartPost partP
  generalize sectP p = r at *
  obtain ⟨r1, r2⟩ := r
  dsimp only at *
  have hv : ∀ y, y ∈ sctCells r1 → y.oneCell' = true := by intro y hy; simp [sctCells, sctInts] at hy; rcases hy with rfl | rfl | rfl <;> rfl
  go_enter Try.func49, Try.ntmps49
  go_wp2_with fail
  refine (HR _).out.mono ?_
  rintro e w1 ⟨rfl, k1⟩
  obtain ⟨vs, vw, hO⟩ := h
  have hO1 := hO.keep0 k1
  have HK1 := Lib.hid k1
  have HO1 := Lib.hid hO1
  have HO := Lib.hid hO
  clear hO hO1 k1
  go_wp2_with (refine stop_store 85 (.tmp 11) (.tmp 55) rfl ?_)
  constructor
  refine wpList_store_all rfl 85 (.tmp 11) (.tmp 55) rfl rfl rfl (vs := sctCells r1) agg_section.2 (Blk.new w1 _ _) hv rfl ?_
  intro w2 d2 k2
  have k3 : Keep [] w1 w2 := ((Keep.refl [] w1).alloc _).trans k2 (fun y hy h => by simp at hy h; omega)
  have hO2 := HO1.out.keep0 k3
  have HK2 := Lib.hid (HK1.out.then k3)
  have hb := hO2.blk
  have hnB : B ∉ vs.ownBlock.toList := fun hm => hO2.ne_secs (by simpa using hm)
  have hng : w1.heap.size ∉ vs.ownBlock.toList := fun hm => by
    have := row_lt HO1.out.secs _ hm
    omega
  have hG : ∀ w', Keep vs.ownBlock.toList w2 w' → w'.cell? ⟨B, 3, none⟩ = some vs ∧ CellsAt w' w1.heap.size 0 (sctCells r1) := fun w' k => ⟨(hb.keep k hnB).cell 3, (d2.keep k hng).cellsAt⟩
  have HO2 := Lib.hid hO2
  have HB := Lib.hid hB
  have HD := Lib.hid (show w1.heap.size < w2.heap.size from d2.lt)
  have HNB := Lib.hid hnB
  have hzl := hO2.blk.lt
  clear k3 k2 d2 hO2 hb hng hnB
  generalize w1.heap.size = gs at *
  go_wp2
  refine ap_begin 10 (Keep vs.ownBlock.toList w2) rfl (Keep.refl _ _).drew (fun hS hPan => ?_) (fun _ _ d _ _ h => by cases d <;> exact h)
  (refine ap_val (v := ?_) 0 rfl (by kernel_rfl) (by kernel_rfl) (by kernel_rfl) (by kernel_rfl) (by rfl) hPan ?_ hS ?_; rotate_left; (intro w' hSw; go_simp; try with_reducible rfl); simp only [Act.put, List.setIfInBounds_toArray, List.set_cons_zero, List.set_cons_succ])
  (refine ap_val (v := ?_) 1 rfl (by kernel_rfl) (by kernel_rfl) (by kernel_rfl) (by kernel_rfl) (by rfl) hPan ?_ hS ?_; rotate_left; (intro w' hSw; go_simp; try with_reducible rfl); simp only [Act.put, List.setIfInBounds_toArray, List.set_cons_zero, List.set_cons_succ])
  (refine ap_val (v := ?_) 2 rfl (by kernel_rfl) (by kernel_rfl) (by kernel_rfl) (by kernel_rfl) (by rfl) hPan ?_ hS ?_; rotate_left; (intro w' hSw; go_simp; try with_reducible rfl); simp only [Act.put, List.setIfInBounds_toArray, List.set_cons_zero, List.set_cons_succ])
  (refine ap_val (v := ?_) 3 rfl (by kernel_rfl) (by kernel_rfl) (by kernel_rfl) (by kernel_rfl) (by rfl) hPan ?_ hS ?_; rotate_left; (intro w' hSw; go_simp; try with_reducible rfl); simp only [Act.put, List.setIfInBounds_toArray, List.set_cons_zero, List.set_cons_succ])
  (refine ap_val (v := ?_) 4 rfl (by kernel_rfl) (by kernel_rfl) (by kernel_rfl) (by kernel_rfl) (by rfl) hPan ?_ hS ?_; rotate_left; (intro w' hSw; obtain ⟨f1,f2⟩ := hG w' hSw; go_simp; try with_reducible rfl); simp only [Act.put, List.setIfInBounds_toArray, List.set_cons_zero, List.set_cons_succ])
  refine ap_agg 5 85 (.tmp 11) (sctCells r1) rfl (by kernel_rfl) (by kernel_rfl) (by kernel_rfl) (by kernel_rfl) (by rfl) hPan rfl rfl agg_section (fun w' h => (hG w' h).2) hS ?_
  (simp only [Act.put, List.setIfInBounds_toArray, List.set_cons_zero, List.set_cons_succ])
  have kA : Keep [] w2 (w2.drew.alloc (.cells (sctCells r1).toArray 85)) := (Keep.refl [] w2).drew.alloc _
  have DA : CellsAt (w2.drew.alloc (.cells (sctCells r1).toArray 85)) w2.heap.size 0 (sctCells r1) := (Blk.new w2.drew 85 (sctCells r1).toArray).cellsAt
  refine ap_one 6 (by kernel_rfl) ?_
  refine op_run (v := .slice (some ⟨w2.heap.size, 0, none⟩) 1 1) (w' := w2.drew.alloc (.cells (sctCells r1).toArray 85)) 6 rfl (by rfl) (by rw [show sctCells r1 = [.int .i64 r1.res, .int .i64 r1.frm, .int .i64 r1.to] from rfl]; go_simp) ?_
  refine ⟨fun _ => hS.alloc _, ?_⟩
  replace hS := hS.alloc (.cells (sctCells r1).toArray 85)
  (simp only [Act.put, List.setIfInBounds_toArray, List.set_cons_zero, List.set_cons_succ])
  have OA := own_keep0 HO2.out.secs kA
  have hOA := HO2.out.keep0 kA
  generalize w2.drew.alloc (.cells (sctCells r1).toArray 85) = w3 at *
  have h63 := kA.size
  refine ap_one 7 (by kernel_rfl) ?_
  refine op_app 7 1 (.tmp 61) (.tmp 63) 42 rfl (by rfl) rfl slice_sct OA rfl rfl DA rfl hv (by have := HB.out; omega) (by omega) (by unfold maxLen; omega) ?_
  intro v' w4 hown4 k4 _
  have hS4 : Keep vs.ownBlock.toList w2 w4 := hS.trans k4 (fun x hx _ => hx)
  refine ⟨fun _ => hS4, ?_⟩
  (simp only [Act.put, List.setIfInBounds_toArray, List.set_cons_zero, List.set_cons_succ])
  replace hS := hS4
  (refine ap_val (v := ?_) 8 rfl (by kernel_rfl) (by kernel_rfl) (by kernel_rfl) (by kernel_rfl) (by rfl) hPan ?_ hS ?_; rotate_left; (intro w' hSw; go_simp; try with_reducible rfl); simp only [Act.put, List.setIfInBounds_toArray, List.set_cons_zero, List.set_cons_succ])
  (refine ap_val (v := ?_) 9 rfl (by kernel_rfl) (by kernel_rfl) (by kernel_rfl) (by kernel_rfl) (by rfl) hPan ?_ hS ?_; rotate_left; (intro w' hSw; go_simp; try with_reducible rfl); simp only [Act.put, List.setIfInBounds_toArray, List.set_cons_zero, List.set_cons_succ])
  have HF4 := Lib.hid (hOA.sec r1 hown4 k4)
  have HK4 : Hid (KpU [45, 85, 77] b0 b0 w (w4.setCell ⟨B, 3, none⟩ v')) := HO.out.kpu HB.out (((HK2.out.mono (by simp)).trans hS4 (fun x hx _ => by simp [hx])).setCell (by simp) _)
  obtain ⟨A', c', rfl⟩ := own_shape hown4
  refine ap_one 10 (by kernel_rfl) ?_
  have hb4 := hOA.blk.keep k4 HNB.out
  refine op_store1 10 rfl (by rfl) rfl rfl rfl rfl rfl rfl (hb4.cell 3) (hb4.frozen 3) ?_
  refine ⟨fun h => (by cases h), ap_done (by kernel_rfl) ?_ _⟩
  (simp only [Act.put, List.setIfInBounds_toArray, List.set_cons_zero, List.set_cons_succ])
  clear hS hS4 hPan kA DA OA hOA hown4 k4 hb4
  go_wp2
  go_ret
  exact ⟨by simp, ⟨_, _, HF4.out⟩, HK4.out⟩
set_option maxRecDepth 100000 in
theorem part_word (w : World) (b0 B : Nat) (s : Stp) (p : ByteArray) (h : OwnSt w b0 B s) (hB : b0 ≤ B) (hp : p.size ≤ 1000000) (hl : s.words.length ≤ 1000000) :
    Calls Try.prog 49 #[.pointer (some ⟨B, 0, none⟩), .int .u8 119, .string p] w (PartPost w b0 B (partP s 119 p).1 (partP s 119 p).2) := by
  have HR := fun W => Lib.hid (readWord_any p W (by unfold maxLen; omega))
  unfold PartPost partP
  have hlt : (readWP (bytesOf p)).1 < 4294967296 := readWP_lt _
  generalize readWP (bytesOf p) = r at *
  obtain ⟨r1, r2⟩ := r
  dsimp only at *
  have hr : (r2 == 0) = true ∨ (r2 == 0) = false := by cases (r2 == 0) <;> simp
  go_enter Try.func49, Try.ntmps49
  go_wp2_with fail
  refine (HR _).out.mono ?_
  rintro e w2 ⟨rfl, k1⟩
  obtain ⟨vs, vw, hO⟩ := h
  have hO2 := hO.keep0 k1
  have HK2 := Lib.hid k1
  have HO := Lib.hid hO
  have hb := hO2.blk
  have hnB : B ∉ vw.ownBlock.toList := fun hm => hO2.ne_words (by simpa using hm)
  have hc4 : w2.cell? ⟨B, 4, none⟩ = some vw := hb.cell 4
  have HO2 := Lib.hid hO2
  have HB := Lib.hid hB
  have HNB := Lib.hid hnB
  have hzl := hO2.blk.lt
  have hu := Lib.hid hO2.words
  have hbz : b0 ≤ w2.heap.size := by omega
  clear hO2 hb hnB k1 hO
  go_wp2_with (at_builtin; refine wpList_append_one rfl (.tmp 77) (.tmp 79) 43 rfl slice_u32S hu.out rfl rfl (us := [.int .u32 (r1 : Int)]) rfl (by simp [Value.oneCell']) hbz (by omega) (by unfold maxLen; omega) ?_; intro v' w4 hown4 k4 hat4; obtain ⟨A', c', rfl⟩ := own_shape hown4; have hb4 := HO2.out.blk.keep k4 HNB.out; have hc5 := hb4.cell 4; have hf5 := hb4.frozen 4)
  have HF4 := Lib.hid (HO2.out.word r1 hown4 k4)
  have HK4 : Hid (KpU [45, 85, 77] b0 b0 w (w4.setCell ⟨B, 4, none⟩ (.slice A' (s.words.length + 1) c'))) := HO.out.kpu HB.out (((HK2.out.mono (by simp)).trans k4 (fun x hx _ => by simp [hx])).setCell (by simp) _)
  clear hown4 k4 hb4 hat4
  rcases hr with g1 | g1
  all_goals
    go_wp2
    go_ret
    exact ⟨by simp [g1], ⟨_, _, HF4.out⟩, HK4.out⟩
/-- The signs of a shape's parts. -/
def partC (c : Int) : Prop := c = 97 ∨ c = 110 ∨ c = 104 ∨ c = 115 ∨ c = 119
theorem part_any (w : World) (b0 B : Nat) (s : Stp) (c : Int) (p : ByteArray) (hc : partC c) (h : OwnSt w b0 B s) (hB : b0 ≤ B) (hp : p.size ≤ 1000000) (hl : s.secs.length ≤ 1000000) (hw : s.words.length ≤ 1000000) :
    Calls Try.prog 49 #[.pointer (some ⟨B, 0, none⟩), .int .u8 c, .string p] w (PartPost w b0 B (partP s c p).1 (partP s c p).2) := by
  rcases hc with rfl | rfl | rfl | rfl | rfl
  · exact part_num w b0 B s 97 p (.inl rfl) h hB hp
  · exact part_num w b0 B s 110 p (.inr rfl) h hB hp
  · exact part_bits w b0 B s p h hB hp
  · exact part_sec w b0 B s p h hB hp hl
  · exact part_word w b0 B s p h hB hp hw
end Go.Proofs.Ytoepkhkaifgddaa
