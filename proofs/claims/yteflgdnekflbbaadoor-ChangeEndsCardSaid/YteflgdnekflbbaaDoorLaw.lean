/- The step from a walk to a given statement 'for every input the law returns true, and each argument reads behind the call as it read before', and how arguments are opened to cells; no condition. -/
import Derived.Test.YteflgdnekflbbaaDoorRows
import Derived.Test.YteflgdnekflbbaaDoorBase
import Derived.WalkKit
import Derived.ProofKit
import Derived.OpenShut
import Derived.Deep.Slices
import Derived.ShutString
namespace Go.Proofs.YteflgdnekflbbaaDoor
open Go.ChangeShapes Go.WideShapes Go.ChangeAt Go.RowKit Go.Deep

theorem own : ownKnob Tryd.prog.godebug = none := by kernel_rfl
theorem laidOut : laidOutB Tryd.prog = true := by kernel_rfl

section
variable {H : Type} {enc : TypeId × Value → H} {P : Program}
theorem trodAll_stays (hl : laidOutB P = true) {W W' : World} (hb : Below W.heap.size W W') : ∀ (ts : List TypeId) (vs : List Value) (ds : List (DataW H)) (ps : List MemPlace),
    (∀ t ∈ ts, P.readableRec t = true ∧ t < P.types.size) → DataW.TrodAll enc P W 0 (fun _ => true) true ts vs ds ps → (∀ x ∈ ps, x.block < W.heap.size) →
    DataW.TrodAll enc P W' 0 (fun b => decide (b < W.heap.size)) true ts vs ds ps := by
  intro ts
  induction ts with
  | nil =>
    intro vs ds ps _ h _
    obtain ⟨rfl, rfl, rfl⟩ := trodAll_nil h
    exact trodAll_mk0
  | cons t ts ih =>
    intro vs ds ps hr h hlt
    obtain ⟨v, vs', d, ds', p, q, rfl, rfl, rfl, h1, h2⟩ := trodAll_cons h
    exact trodAll_cons_mk (Below.trod hl (hr t (by simp)).1 (hr t (by simp)).2 h1 hb (fun x hx => hlt x (by simp [hx])))
      (ih vs' ds' q (fun t' ht' => hr t' (by simp [ht'])) h2 (fun x hx => hlt x (by simp [hx])))

theorem law_lifted {C : Checked} {os : Os} {f : FuncId} {fn : Func} {s : ChangeSpec} (tb : TypeId)
    (hown : ownKnob C.prog.godebug = none) (started : os.Started) (noInit : C.prog.inits.idxOf? f = none) (hfn : C.prog.funcs[f]? = some fn)
    (witness : ∃ (w : World) (tape : Tape) (i : Input), w.os = os ∧ (w.forCall tape i).Shaped C.prog ∧ i.vars = [] ∧ Input.okWide C.prog (w.forCall tape i) .any w.heap.size f i ∧
      s.pre6 enc C.prog fn [] false (w.forCall tape i).memory i.args ∧ ({} : Assume).holds C.prog (lone (Frame.enter C.prog f i.args .normal) [] (w.forCall tape i)))
    (hvars : s.vars = []) (hspec : ∀ ds : List (DataW H), ds.length = fn.params.toList.length → s.fn H ds = { results := [.lit (.bool true)], args := ds })
    (hres : fn.resultTypes = #[tb]) (hbool : C.prog.underlying tb = some .bool) (hlaid : laidOutB C.prog = true)
    (hread : ∀ t ∈ fn.params.toList, C.prog.readableRec t = true ∧ t < C.prog.types.size)
    (walk : ∀ (W : World) (base : Nat) (args : Array Value) (ds : List (DataW H)) (ps : List MemPlace), DataW.TrodAll enc C.prog W 0 (fun _ => true) true fn.params.toList args.toList ds ps →
      (∀ (j : Nat) t v, fn.params[j]? = some t → args[j]? = some v → Value.okWide C.prog W .any base t v) →
      Calls C.prog f args W fun e w' => e = .returned (.bool true) ∧ Keep [] W w') :
    ReturnsInHanded {} C os f .any (s.pre6 enc C.prog fn [] false) (s.post enc C.prog fn false true false false) := by
  refine returnsInHanded_of_change hown started noInit hfn witness ?_
  intro W base args ds gs before hval hW hcnd _
  have hW' := hW
  obtain ⟨p, q, hA, hV, rfl, hfz, hnd⟩ := hW
  rw [hvars] at hV
  obtain ⟨rfl, rfl⟩ := trodVars_none hV
  refine (walk W base args ds p hA hval).mono fun e W' ⟨he, hk⟩ => ?_
  subst he
  have hb := hk.below
  have hlen : ds.length = fn.params.toList.length := by
    have : ∀ (ts : List TypeId) (vs : List Value) (ds : List (DataW H)) (ps : List MemPlace), DataW.TrodAll enc C.prog W 0 (fun _ => true) true ts vs ds ps → ds.length = ts.length := by
      intro ts
      induction ts with
      | nil => intro vs ds ps h; obtain ⟨rfl, rfl, rfl⟩ := trodAll_nil h; rfl
      | cons t ts ih =>
        intro vs ds ps h
        obtain ⟨v, vs', d, ds', p, q, rfl, rfl, rfl, h1, h2⟩ := trodAll_cons h
        simp [ih _ _ _ h2]
    exact this _ _ _ _ hA
  have hs : s.fn H (ds ++ []) = { results := [.lit (.bool true)], args := ds } := by rw [List.append_nil]; exact hspec ds hlen
  have hlt : ∀ x ∈ p, x.block < W.heap.size := fun x hx => by simpa using hW'.lt x (by simp [hx])
  refine ⟨_, rfl, ds, [], p ++ [], [], p, [], hW', ?_, ?_, ?_, hb.frame _, fun h => by cases h⟩
  · rw [hs, hres]
    exact trodAll_mk1 (shut_bool hbool _)
  · rw [hs]
    exact trodAll_stays hlaid hb _ _ _ _ hread hA hlt
  · rw [hs, hvars]
    rfl
end

section
variable {H : Type} {enc : TypeId × Value → H} {P : Program} {w : World} {base : Nat} {spare : Nat → Bool} {held : Bool}
/-- A slice of whatever elements: its own reading 'Reads' of the elements' cells, and each element's reading R. -/
theorem rd_slice {α : Type} {t e : TypeId} {size : Nat} {R : List Value → α → Prop} (ht : P.underlying t = some (.slice e)) (hC : P.cellsOf e = size) (hpos : 0 < size)
    (hR : ∀ n cs x, DataW.trod enc P w base spare held n e cs = some x → ∃ a, R cs a) {fuel : Nat} {cs : List Value} {x : DataW H × List MemPlace} (h : DataW.trod enc P w base spare held fuel t cs = some x) :
    ∃ (A : Option Addr) (n c : Nat) (css : List (List Value)) (xs : List α), cs = [.slice A n c] ∧ n ≤ c ∧ c ≤ maxLen ∧ xs.length = n ∧ css.length = n ∧ Reads w size A n css.flatten ∧
      ∀ (i : Nat) (hi : i < css.length) (hj : i < xs.length), css[i].length = size ∧ R css[i] xs[i] := by
  rcases open_slice ht h with ⟨rfl, _⟩ | ⟨a, len, cap, m, n, D, Pl, rfl, _, hl, hm, hmm, _, hi⟩
  · exact ⟨none, 0, 0, [], [], rfl, Nat.le_refl _, Nat.zero_le _, rfl, rfl, Reads.none_, fun i hi => by simp at hi⟩
  · have hlm : len ≤ m := by rw [hmm]; split <;> omega
    have hex : ∀ i : Fin len, ∃ cs' : List Value, cs'.length = size ∧ (∀ j u, cs'[j]? = some u → w.cell? (a.add (i * size + j)) = some u) ∧ ∃ y, R cs' y := by
      intro i
      obtain ⟨cs', hc, htr⟩ := hi i (by have := i.2; omega)
      rw [hC] at hc
      obtain ⟨_, hcl, hat⟩ := World.cells?_some hc
      obtain ⟨y, hy⟩ := hR _ _ _ htr
      refine ⟨cs', hcl, fun j u hu => ?_, y, hy⟩
      have hj : j < size := by rw [← hcl]; exact (List.getElem?_eq_some_iff.1 hu).1
      rw [← Go.Deep.add_add, hat j hj, hu]
    obtain ⟨cf, hch⟩ := Classical.skolem.1 hex
    obtain ⟨yf, hch2⟩ := Classical.skolem.1 (fun i => (hch i).2.2)
    refine ⟨some a, len, cap, List.ofFn cf, List.ofFn yf, rfl, hl, hm, by simp, by simp, ?_, ?_⟩
    · have hfl : ∀ (css : List (List Value)), (∀ l ∈ css, l.length = size) → css.flatten.length = css.length * size ∧
          ∀ j u, css.flatten[j]? = some u → ∃ l, css[j / size]? = some l ∧ l[j % size]? = some u := by
        intro css
        induction css with
        | nil => intro _; simp
        | cons l css ih =>
          intro hlen
          have h1 := hlen l (by simp)
          obtain ⟨i1, i2⟩ := ih (fun l' hl' => hlen l' (by simp [hl']))
          refine ⟨by rw [List.flatten_cons, List.length_append, h1, i1, List.length_cons, Nat.add_mul]; omega, fun j u hu => ?_⟩
          rw [List.flatten_cons] at hu
          by_cases hj : j < size
          · rw [List.getElem?_append_left (by omega)] at hu
            exact ⟨l, by rw [Nat.div_eq_of_lt hj]; rfl, by rw [Nat.mod_eq_of_lt hj]; exact hu⟩
          · rw [List.getElem?_append_right (by omega), h1] at hu
            obtain ⟨l', h2, h3⟩ := i2 _ _ hu
            refine ⟨l', ?_, ?_⟩
            · rw [show j / size = (j - size) / size + 1 by rw [Nat.div_eq_sub_div hpos (by omega)]]
              simpa using h2
            · rw [show j % size = (j - size) % size by rw [← Nat.mod_eq_sub_mod (by omega)]]
              exact h3
      have hlen : ∀ l ∈ List.ofFn cf, l.length = size := by
        intro l hl'
        obtain ⟨i, rfl⟩ := List.mem_ofFn.1 hl'
        exact (hch i).1
      obtain ⟨f1, f2⟩ := hfl _ hlen
      refine Reads.of_cells hpos (by rw [f1]; simp) (fun j u hu => ?_)
      obtain ⟨l, h2, h3⟩ := f2 j u hu
      have hjs : j / size < len := by
        have := (List.getElem?_eq_some_iff.1 h2).1
        simpa using this
      rw [List.getElem?_ofFn, dif_pos hjs] at h2
      injection h2 with h2
      subst h2
      have := (hch ⟨j / size, hjs⟩).2.1 _ _ h3
      simp only [Nat.div_add_mod'] at this
      exact this
    · intro i hi hj
      simp only [List.getElem_ofFn]
      exact ⟨(hch _).1, hch2 _⟩

/-- A slice of plain elements, each read as the cells 'cells a'. -/
theorem rd_plain {α : Type} {t e : TypeId} {size : Nat} {cells : α → List Value} {ok : α → Prop} (ht : P.underlying t = some (.slice e)) (hC : P.cellsOf e = size) (hpos : 0 < size)
    (hR : ∀ n cs x, DataW.trod enc P w base spare held n e cs = some x → ∃ a, cs = cells a ∧ ok a) {fuel : Nat} {cs : List Value} {x : DataW H × List MemPlace} (h : DataW.trod enc P w base spare held fuel t cs = some x) :
    ∃ (A : Option Addr) (n c : Nat) (xs : List α), cs = [.slice A n c] ∧ n ≤ c ∧ c ≤ maxLen ∧ xs.length = n ∧ Reads w size A n (xs.flatMap cells) ∧ ∀ a ∈ xs, ok a := by
  obtain ⟨A, n, c, css, xs, rfl, h1, h2, h3, h4, h5, h6⟩ := rd_slice (R := fun cs a => cs = cells a ∧ ok a) ht hC hpos hR h
  have e : css = xs.map cells := by
    apply List.ext_getElem (by rw [h4, List.length_map, h3])
    intro i hi hj
    rw [List.getElem_map]
    exact (h6 i hi (by simpa using hj)).2.1
  refine ⟨A, n, c, xs, rfl, h1, h2, h3, ?_, fun a ha => ?_⟩
  · rw [List.flatMap_def, ← e]
    exact h5
  · obtain ⟨i, hi, rfl⟩ := List.getElem_of_mem ha
    exact (h6 i (by omega) hi).2.2

theorem rd_struct2 {t : TypeId} {f0 f1 : Field} {z0 z1 : Nat} (hs : P.underlying t = some (.struct #[f0, f1])) (hC : P.cellsOf t = z0 + z1) (c0 : P.cellsOf f0.type = z0) (c1 : P.cellsOf f1.type = z1) (o0 : f0.offset = 0) (o1 : f1.offset = z0)
    {fuel : Nat} {cs : List Value} {x : DataW H × List MemPlace} (h : DataW.trod enc P w base spare held fuel t cs = some x) :
    ∃ (n : Nat) (l0 l1 : List Value) (y0 y1 : DataW H × List MemPlace), cs = l0 ++ l1 ∧ l0.length = z0 ∧ l1.length = z1 ∧ DataW.trod enc P w base spare held n f0.type l0 = some y0 ∧ DataW.trod enc P w base spare held n f1.type l1 = some y1 := by
  obtain ⟨xs, n, _, _, hlen, hxl, hf⟩ := DataW.trod_struct hs h
  rw [hC] at hlen
  have h0 := hf 0 f0 rfl
  have h1 := hf 1 f1 rfl
  match xs, hxl with
  | [y0, y1], _ =>
    rw [o0, c0, List.drop_zero] at h0
    rw [o1, c1] at h1
    refine ⟨n, cs.take z0, cs.drop z0, y0, y1, (List.take_append_drop _ _).symm, by simp; omega, by simp; omega, h0, ?_⟩
    rw [List.take_of_length_le (by simp; omega)] at h1
    exact h1
end
theorem wf_bounds_u32 {n : Int} (h : (Lit.int .u32 n).wf = true) : ∃ m : Nat, n = (m : Int) ∧ m < 4294967296 := by
  have h' := bounds_u32 h
  exact ⟨n.toNat, by omega, by omega⟩

end Go.Proofs.YteflgdnekflbbaaDoor
