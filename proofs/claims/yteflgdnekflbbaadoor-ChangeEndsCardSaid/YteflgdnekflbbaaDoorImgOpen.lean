/- How an argument of whatever structs and arrays of ints is opened to cells; no condition. An argument that is an image, opened to its cells. -/
import Derived.Test.YteflgdnekflbbaaDoorLaw
import Derived.Test.YteflgdnekflbbaaDoorEqI
import Derived.Test.YteflgdnekflbbaaDoorImgMem
namespace Go.Proofs.YteflgdnekflbbaaDoor
open Go.ChangeShapes Go.WideShapes Go.ChangeAt Go.RowKit Go.Deep

/-- A type whose cells are n ints. -/
def RdI (P : Program) (t : TypeId) (n : Nat) : Prop :=
  ∀ {H : Type} {enc : TypeId × Value → H} {w : World} {base : Nat} {spare : Nat → Bool} {held : Bool} {fuel : Nat} {cs : List Value} {x : DataW H × List MemPlace}, DataW.trod enc P w base spare held fuel t cs = some x → cs.length = n ∧ ∀ (j : Nat) (u : Value), cs[j]? = some u → ∃ k : Int, u = Value.int .i64 k
theorem rdI_int {P : Program} {t : TypeId} (ht : P.underlying t = some (.int .i64)) : RdI P t 1 := by
  intro H enc w base spare held fuel cs x h
  obtain ⟨k, rfl, _, _⟩ := DataW.trod_int ht h
  refine ⟨rfl, fun j u hu => ?_⟩
  cases j with
  | zero => simp at hu; exact ⟨k, hu.symm⟩
  | succ j => simp at hu
theorem rdI_array {P : Program} {t e : TypeId} {n : Nat} (ht : P.underlying t = some (.array n e)) (hc : P.cellsOf t = n) (he : P.cellsOf e = 1) (hr : RdI P e 1) : RdI P t n := by
  intro H enc w base spare held fuel cs x h
  obtain ⟨xs, m, _, _, hl, hxl, hf⟩ := DataW.trod_array ht h
  rw [hc] at hl
  refine ⟨hl, fun j u hu => ?_⟩
  have hj : j < n := by rw [← hl]; exact (List.getElem?_eq_some_iff.1 hu).1
  have h1 := hf j hj
  rw [he, List.getElem?_eq_getElem (by omega)] at h1
  obtain ⟨_, h2⟩ := hr h1
  exact h2 0 u (by rw [List.getElem?_take_of_lt (by decide), List.getElem?_drop, Nat.mul_one, Nat.add_zero]; exact hu)
/-- A struct's fields, one behind the other from cell o to cell n. -/
def FieldsR (P : Program) : List Field → Nat → Nat → Prop
  | [], o, n => o = n
  | f :: l, o, n => f.offset = o ∧ ∃ s, P.cellsOf f.type = s ∧ RdI P f.type s ∧ FieldsR P l (o + s) n
theorem rdI_struct {P : Program} {t : TypeId} {n : Nat} {l : List Field} (ht : P.underlying t = some (.struct l.toArray)) (hc : P.cellsOf t = n) (hF : FieldsR P l 0 n) : RdI P t n := by
  intro H enc w base spare held fuel cs x h
  obtain ⟨xs, m, _, _, hl, hxl, hf⟩ := DataW.trod_struct ht h
  rw [hc] at hl
  refine ⟨hl, ?_⟩
  have hall : ∀ f ∈ l, ∃ y, DataW.trod enc P w base spare held m f.type ((cs.drop f.offset).take (P.cellsOf f.type)) = some y := by
    intro f hm
    obtain ⟨i, hi, rfl⟩ := List.getElem_of_mem hm
    have := hf i l[i] (by simp)
    rw [List.getElem?_eq_getElem (by rw [hxl]; simpa using hi)] at this
    exact ⟨_, this⟩
  have key : ∀ (l : List Field) (o : Nat), FieldsR P l o n → (∀ f ∈ l, ∃ y, DataW.trod enc P w base spare held m f.type ((cs.drop f.offset).take (P.cellsOf f.type)) = some y) → ∀ (j : Nat) (u : Value), o ≤ j → cs[j]? = some u → ∃ k : Int, u = Value.int .i64 k := by
    intro l
    induction l with
    | nil =>
      intro o ho _ j u hj hu
      have ho : o = n := ho
      have := (List.getElem?_eq_some_iff.1 hu).1
      omega
    | cons f l ih =>
      rintro o ⟨ho, s, hs, hr, hF⟩ hy j u hj hu
      by_cases hjs : j < o + s
      · obtain ⟨y, hy1⟩ := hy f (by simp)
        obtain ⟨_, h2⟩ := hr hy1
        refine h2 (j - o) u ?_
        rw [ho, hs, List.getElem?_take_of_lt (by omega), List.getElem?_drop, show o + (j - o) = j by omega]
        exact hu
      · exact ih _ hF (fun f' hf' => hy f' (by simp [hf'])) j u (by omega) hu
  exact fun j u hu => key l 0 hF hall j u (Nat.zero_le _) hu
theorem ints_list : ∀ (cs : List Value), (∀ (j : Nat) (u : Value), cs[j]? = some u → ∃ k : Int, u = Value.int .i64 k) → ∃ xs : List Int, cs = iv xs
  | [], _ => ⟨[], rfl⟩
  | c :: cs, h => by
    obtain ⟨k, rfl⟩ := h 0 c rfl
    obtain ⟨xs, rfl⟩ := ints_list cs (fun j u hu => h (j + 1) u (by simpa using hu))
    exact ⟨k :: xs, rfl⟩
theorem RdI.list {P : Program} {t : TypeId} {n : Nat} (hr : RdI P t n) {H : Type} {enc : TypeId × Value → H} {w : World} {base : Nat} {spare : Nat → Bool} {held : Bool} {fuel : Nat} {cs : List Value} {x : DataW H × List MemPlace} (h : DataW.trod enc P w base spare held fuel t cs = some x) :
    ∃ xs : List Int, cs = iv xs ∧ xs.length = n := by
  obtain ⟨hl, hc⟩ := hr h
  obtain ⟨xs, rfl⟩ := ints_list cs hc
  exact ⟨xs, rfl, by simpa using hl⟩
end Go.Proofs.YteflgdnekflbbaaDoor

namespace Go.Proofs.YteflgdnekflbbaaDoor
open Go.ChangeShapes Go.WideShapes Go.ChangeAt Go.RowKit Go.Deep

theorem rI_int : RdI Tryd.prog 3 1 := rdI_int Tryd.underlying3
theorem rI_task : RdI Tryd.prog 88 11 := rdI_struct Tryd.underlying88 (by kernel_rfl)
  ⟨rfl, 1, by kernel_rfl, rI_int, rfl, 1, by kernel_rfl, rI_int, rfl, 1, by kernel_rfl, rI_int, rfl, 8, by kernel_rfl, rdI_array Tryd.underlying86 (by kernel_rfl) (by kernel_rfl) rI_int, rfl⟩
theorem rI_queue : RdI Tryd.prog 130 2 := rdI_struct Tryd.underlying130 (by kernel_rfl) ⟨rfl, 1, by kernel_rfl, rI_int, rfl, 1, by kernel_rfl, rdI_int Tryd.underlying128, rfl⟩
theorem rI_edge : RdI Tryd.prog 93 23 := rdI_struct Tryd.underlying93 (by kernel_rfl)
  ⟨rfl, 1, by kernel_rfl, rI_int, rfl, 1, by kernel_rfl, rI_int, rfl, 1, by kernel_rfl, rdI_int Tryd.underlying89, rfl, 16, by kernel_rfl, rdI_array Tryd.underlying90 (by kernel_rfl) (by kernel_rfl) rI_int,
    rfl, 4, by kernel_rfl, rdI_array Tryd.underlying91 (by kernel_rfl) (by kernel_rfl) rI_int, rfl⟩

theorem zip_fst_snd {α β : Type} : ∀ (ms : List (α × β)), (ms.map (·.1)).zip (ms.map (·.2)) = ms
  | [] => rfl
  | a :: l => by simp [zip_fst_snd l]
section
variable {H : Type} {enc : TypeId × Value → H} {w : World} {base : Nat} {spare : Nat → Bool} {held : Bool}
theorem rd_task {n : Nat} {cs : List Value} {x : DataW H × List MemPlace} (h : DataW.trod enc Tryd.prog w base spare held n 88 cs = some x) : ∃ t : Tsk, cs = tskCells t ∧ t.lon.length = 8 := by
  obtain ⟨xs, rfl, hl⟩ := rI_task.list h
  match xs, hl with
  | a :: b :: c :: l, hl => exact ⟨⟨a, b, c, l⟩, rfl, by simpa using hl⟩
theorem rd_queue {n : Nat} {cs : List Value} {x : DataW H × List MemPlace} (h : DataW.trod enc Tryd.prog w base spare held n 130 cs = some x) : ∃ q : Que, cs = queCells q ∧ True := by
  obtain ⟨xs, rfl, hl⟩ := rI_queue.list h
  match xs, hl with
  | [a, b], _ => exact ⟨⟨a, b⟩, rfl, trivial⟩
theorem rd_edge {n : Nat} {cs : List Value} {x : DataW H × List MemPlace} (h : DataW.trod enc Tryd.prog w base spare held n 93 cs = some x) : ∃ e : Edg, cs = edgCells e ∧ (e.offs.length = 16 ∧ e.mp.length = 4) := by
  obtain ⟨xs, rfl, hl⟩ := rI_edge.list h
  match xs, hl with
  | a :: b :: c :: l, hl =>
    refine ⟨⟨a, b, c, l.take 16, l.drop 16⟩, ?_, ?_, ?_⟩
    · show iv _ = iv (a :: b :: c :: (l.take 16 ++ l.drop 16))
      rw [List.take_append_drop]
    · simp at hl ⊢; omega
    · simp at hl ⊢; omega
theorem rd_mode {n : Nat} {cs : List Value} {x : DataW H × List MemPlace} (h : DataW.trod enc Tryd.prog w base spare held n 76 cs = some x) :
    ∃ m : Mdd × Option Addr × Nat, cs = mddCells m ∧ (m.1.set < 4294967296 ∧ m.1.qs.length ≤ maxLen ∧ Reads w 2 m.2.1 m.1.qs.length (m.1.qs.flatMap queCells)) := by
  obtain ⟨m, l0, l1, y0, y1, rfl, _, _, g0, g1⟩ := rd_struct2 (z0 := 1) (z1 := 1) Tryd.underlying76 (by kernel_rfl) (by kernel_rfl) (by kernel_rfl) rfl rfl h
  obtain ⟨k, rfl, _, hw⟩ := DataW.trod_int Tryd.underlying35 g0
  obtain ⟨s, rfl, hs⟩ := wf_bounds_u32 hw
  obtain ⟨A, n, c, xs, rfl, h1, h2, h3, h4, _⟩ := rd_plain (cells := queCells) (ok := fun _ => True) (size := 2) Tryd.underlying74 (by kernel_rfl) (by decide) (fun n cs x h => rd_queue h) g1
  subst h3
  exact ⟨(⟨s, xs⟩, A, c), rfl, hs, Nat.le_trans h1 h2, h4⟩
set_option maxRecDepth 100000 in
theorem rd_image {n : Nat} {cs : List Value} {x : DataW H × List MemPlace} (h : DataW.trod enc Tryd.prog w base spare held n 26 cs = some x) : ∃ (v : ImgV) (x : Img), cs = imgCells v x ∧ ImgAt w v x := by
  obtain ⟨xs, m, _, _, hlen, hxl, hf⟩ := DataW.trod_struct Tryd.underlying26 h
  have hC : Tryd.prog.cellsOf 26 = 4 := by kernel_rfl
  have c0 : Tryd.prog.cellsOf 3 = 1 := by kernel_rfl
  have c1 : Tryd.prog.cellsOf 22 = 1 := by kernel_rfl
  have c2 : Tryd.prog.cellsOf 23 = 1 := by kernel_rfl
  have c3 : Tryd.prog.cellsOf 24 = 1 := by kernel_rfl
  rw [hC] at hlen
  match cs, hlen, xs, hxl with
  | [v0, v1, v2, v3], _, [y0, y1, y2, y3], _ =>
    have h0 : DataW.trod enc Tryd.prog w base spare held m 3 (List.take (Tryd.prog.cellsOf 3) (List.drop 0 [v0, v1, v2, v3])) = some y0 := hf 0 _ rfl
    rw [c0] at h0
    have h1 : DataW.trod enc Tryd.prog w base spare held m 22 (List.take (Tryd.prog.cellsOf 22) (List.drop 1 [v0, v1, v2, v3])) = some y1 := hf 1 _ rfl
    rw [c1] at h1
    have h2 : DataW.trod enc Tryd.prog w base spare held m 23 (List.take (Tryd.prog.cellsOf 23) (List.drop 2 [v0, v1, v2, v3])) = some y2 := hf 2 _ rfl
    rw [c2] at h2
    have h3 : DataW.trod enc Tryd.prog w base spare held m 24 (List.take (Tryd.prog.cellsOf 24) (List.drop 3 [v0, v1, v2, v3])) = some y3 := hf 3 _ rfl
    rw [c3] at h3
    obtain ⟨k0, e0, _, _⟩ := DataW.trod_int Tryd.underlying3 h0
    obtain ⟨A1, n1, q1, ts, e1, a1, a2, a3, a4, a5⟩ := rd_plain (cells := tskCells) (ok := fun t => t.lon.length = 8) (size := 11) Tryd.underlying22 (by kernel_rfl) (by decide) (fun n cs x h => rd_task h) h1
    obtain ⟨A2, n2, q2, ms, e2, b1, b2, b3, b4, b5⟩ := rd_plain (cells := mddCells) (ok := fun m => m.1.set < 4294967296 ∧ m.1.qs.length ≤ maxLen ∧ Reads w 2 m.2.1 m.1.qs.length (m.1.qs.flatMap queCells)) (size := 2) Tryd.underlying23 (by kernel_rfl) (by decide) (fun n cs x h => rd_mode h) h2
    obtain ⟨A3, n3, q3, es, e3, d1, d2, d3, d4, d5⟩ := rd_plain (cells := edgCells) (ok := fun e => e.offs.length = 16 ∧ e.mp.length = 4) (size := 23) Tryd.underlying24 (by kernel_rfl) (by decide) (fun n cs x h => rd_edge h) h3
    obtain rfl : v0 = .int .i64 k0 := by simpa using e0
    obtain rfl : v1 = .slice A1 n1 q1 := by simpa using e1
    obtain rfl : v2 = .slice A2 n2 q2 := by simpa using e2
    obtain rfl : v3 = .slice A3 n3 q3 := by simpa using e3
    subst a3
    subst b3
    subst d3
    have hz := zip_fst_snd ms
    refine ⟨⟨A1, q1, A2, q2, A3, q3, ms.map (·.2)⟩, ⟨k0, ts, ms.map (·.1), es⟩, by simp [imgCells], ?_⟩
    refine ⟨⟨a5, fun e he => (d5 e he).1, fun e he => (d5 e he).2, fun m hm => ?_⟩, by simp, a4, ?_, d4, fun i hi hi' => ?_, Nat.le_trans a1 a2, ?_, Nat.le_trans d1 d2, fun m hm => ?_⟩
    · obtain ⟨p, hp, rfl⟩ := List.mem_map.1 hm
      exact (b5 p hp).1
    · simp only [List.length_map]
      rw [hz]
      exact b4
    · simp only [List.length_map] at hi
      simp only [List.getElem_map]
      exact (b5 ms[i] (List.getElem_mem hi)).2.2
    · simpa using Nat.le_trans b1 b2
    · obtain ⟨p, hp, rfl⟩ := List.mem_map.1 hm
      exact (b5 p hp).2.1
end
end Go.Proofs.YteflgdnekflbbaaDoor
