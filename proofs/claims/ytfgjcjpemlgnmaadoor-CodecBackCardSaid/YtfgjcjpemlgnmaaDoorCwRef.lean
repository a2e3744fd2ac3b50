/- The document's Encode: the words of an image that may be; no condition. -/
import Derived.Test.YtfgjcjpemlgnmaaDoorCwPut
namespace Go.Proofs.YtfgjcjpemlgnmaaDoor
open Go.RowKit

section
variable {P : Program} {ops : Array Oper} {rest : List Oper} {o : Oper} {a : Act} {Q : Exit → Act → World → Prop} {wr : World} {e : TypeId}
/-- 'out = append(out, x, y, ..)': out is the call's own. -/
theorem wpList_app_many {us : List Value} (m : Nat)
    (hgd : o.guard = none) (s x : Operand) (t : TypeId) (ho : o.op = .call { callee := .builtin .append, args := #[s, x], argTypes := #[t, t] })
    {size bytes : Nat} (hS : SliceOf P t e size bytes) {B : Nat} {v : Value} {n : Nat} {xs : List Value} (hown : wr.ownsRow B e size v n xs) (hs : a.eval s = v) (hx : a.eval x = .slice (some ⟨wr.heap.size, 0, none⟩) m m)
    (hl : us.length = m * size) (h1 : ∀ u ∈ us, u.oneCell' = true) (hB : B ≤ wr.heap.size) (hb : (n + m) * bytes ≤ 140737488355328) (h63 : n + m ≤ maxLen)
    (h : ∀ v' w', w'.ownsRow B e size v' (n + m) (xs ++ us) → Keep v.ownBlock.toList wr w' → (v'.ownBlock = v.ownBlock ∨ v'.ownBlock = some (wr.heap.size + 1)) → wpList P ops Q rest (a.put o.dst v') w') :
    wpList P ops Q (o :: rest) a (wr.alloc (.cells us.toArray e)) := by
  obtain ⟨ht, ⟨i, z, hi, hz, hsz, hby, hzs⟩, hpos⟩ := hS.parts
  obtain ⟨v', w', hr, h2, h3, _, h5⟩ := run_append_own_at (P := P) (wr.alloc (.cells us.toArray e)) B t o.type e i z size bytes ht hi hz hsz hby hzs hpos v n xs (hown.alloc _) ⟨wr.heap.size, 0, none⟩ m m us hl
    (by
      intro j u hu
      rw [add_of_block]
      show World.cell? _ _ = _
      simp only [World.cell?, heap_alloc_new]
      simpa using hu) h1 h63 hb (by simp; omega)
  refine wpList_plain hgd fun K hK => ?_
  unfold Oper.wp execOp
  simp only [ho, resolve, invoke, builtin, Sem.run_bind, Sem.run_pure, Result.andThen_ok, List.map_toArray, List.map_cons, List.map_nil, hs, hx, hr]
  refine hK _ _ (h v' w' h2 ?_ (by simpa using h5))
  have hk := Keep.of_grown h3
  exact ((Keep.refl _ wr).alloc _).trans hk (fun x hx _ => hx)
end
theorem slice_int2 : SliceOf Tryd.prog 62 3 1 8 := ⟨Tryd.underlying62, by kernel_rfl, by decide⟩
def RetWs (w : World) (l : List Int) (e : Ending) (w' : World) : Prop := ∃ A c, e = .returned (.slice A l.length c) ∧ w'.ownsRow w.heap.size 44 1 (.slice A l.length c) l.length (wordV l) ∧ Keep [] w w'
theorem OwnZ.ret {w0 w : World} {V : Value} {l : List Int} (h : OwnZ w0 w V l) : RetWs w0 l (.returned V) w := by
  obtain ⟨A, c, rfl⟩ := h.shape
  exact ⟨A, c, rfl, h.row, h.keep⟩

theorem words_pre1 (x : Img) (k : Nat) (hk : k < x.tasks.length) : (headI x ++ (x.tasks.take k).flatMap wordsT) ++ wordsT x.tasks[k] <+: wordsI x := by
  refine ⟨(x.tasks.drop (k + 1)).flatMap wordsT ++ (x.modes.flatMap wordsM ++ x.edges.flatMap (wordsE x)), ?_⟩
  unfold wordsI
  rw [fm_split wordsT x.tasks k hk]
  simp only [List.append_assoc]
theorem words_pre2 (x : Img) (k : Nat) (hk : k < x.modes.length) : (headI x ++ (x.tasks.flatMap wordsT ++ (x.modes.take k).flatMap wordsM)) ++ wordsM x.modes[k] <+: wordsI x := by
  refine ⟨(x.modes.drop (k + 1)).flatMap wordsM ++ x.edges.flatMap (wordsE x), ?_⟩
  unfold wordsI
  rw [fm_split wordsM x.modes k hk]
  simp only [List.append_assoc]
theorem words_pre3 (x : Img) (k : Nat) (hk : k < x.edges.length) : (headI x ++ (x.tasks.flatMap wordsT ++ (x.modes.flatMap wordsM ++ (x.edges.take k).flatMap (wordsE x)))) ++ wordsE x x.edges[k] <+: wordsI x := by
  refine ⟨(x.edges.drop (k + 1)).flatMap (wordsE x), ?_⟩
  unfold wordsI
  rw [fm_split (wordsE x) x.edges k hk]
  simp only [List.append_assoc]
/-- The offsets of the tasks that an edge brings, of the first k tasks. -/
def frK (s : Nat) (offs : List Int) (k : Nat) : List Int := ((List.range k).filter (fun i => s.testBit i)).map (fun i => offs.getD i 0)
theorem frK_succ (s : Nat) (offs : List Int) (k : Nat) : frK s offs (k + 1) = frK s offs k ++ if s.testBit k = true then [offs.getD k 0] else [] := by
  unfold frK
  rw [List.range_succ, List.filter_append, List.map_append]
  by_cases h : s.testBit k = true
  · rw [if_pos h]; simp [h]
  · rw [if_neg h]; simp [h]
theorem frK_bits (s : Nat) (offs : List Int) (h : ∀ k ∈ bitsL s, k < 16) : frK s offs 16 = (bitsL s).map (fun k => offs.getD k 0) := by
  unfold frK bitsL
  congr 1
  have e : List.range 32 = List.range 16 ++ (List.range 16).map (16 + ·) := by decide
  rw [e, List.filter_append]
  have h0 : ((List.range 16).map (16 + ·)).filter (fun i => s.testBit i) = [] := by
    rw [List.filter_eq_nil_iff]
    intro i hi ht
    simp only [List.mem_map, List.mem_range] at hi
    obtain ⟨j, hj, rfl⟩ := hi
    have := h (16 + j) (bitsL_mem.2 ⟨by omega, ht⟩)
    omega
  rw [h0, List.append_nil]
theorem frK_len (s : Nat) (offs : List Int) (k : Nat) : (frK s offs k).length ≤ k := by
  unfold frK
  rw [List.length_map]
  have := List.length_filter_le (fun i => s.testBit i) (List.range k)
  simpa using this
theorem usesB_wrap (l : List Int) (j : Nat) (hj : j < 8) (h : 0 < l.getD j 0) : wrap64 ((usesB l j : Nat) + wrap64 (2 ^ j)) = ((usesB l (j + 1) : Nat) : Int) := by
  have h1 := usesB_lt l j
  have h2 : (2 : Nat) ^ j ≤ 2 ^ 7 := Nat.pow_le_pow_right (by decide) (by omega)
  have e : usesB l (j + 1) = usesB l j + 2 ^ j := by rw [usesB, if_pos h]
  have h3 : ((2 : Int) ^ j) = ((2 ^ j : Nat) : Int) := by simp
  rw [h3, e]
  generalize 2 ^ j = P at *
  generalize usesB l j = u at *
  have e1 : wrap64 (P : Int) = P := by unfold wrap64; omega
  rw [e1]
  unfold wrap64
  omega
/-- A row of ints of the call's own, laid behind w0. -/
structure OwnN (w0 w : World) (V : Value) (l : List Int) : Prop where
  row : w.ownsRow w0.heap.size 3 1 V l.length (iv l)
  keep : Keep [] w0 w
theorem OwnN.nil (w : World) : OwnN w w (.slice none 0 0) [] := ⟨World.ownsRow_nil _ _ _ _, Keep.refl _ _⟩
theorem OwnN.app {w0 w w' : World} {V V' : Value} {l m : List Int} (h : OwnN w0 w V l) (k : Keep V.ownBlock.toList w w') (h' : w'.ownsRow w0.heap.size 3 1 V' m.length (iv m)) : OwnN w0 w' V' m :=
  ⟨h', h.keep.trans k (fun x hx hlt => by have := (h.row.lt x (by simpa using hx)).1; omega)⟩
/-- A row of ints is kept by what changes a row of words. -/
theorem row_apart {w0 w1 w w' : World} {V V2 : Value} {l : List Int} {n : Nat} {xs : List Value} (h : OwnZ w0 w V l) (h2 : w.ownsRow w1.heap.size 3 1 V2 n xs) (k : Keep V.ownBlock.toList w w') : w'.ownsRow w1.heap.size 3 1 V2 n xs :=
  own_keep h2 k (fun g hg hm => by
    obtain ⟨cs, fr, hh⟩ := own_typed h2 g (by simp [hg])
    exact own_ne h.row hh (by decide) (by simpa using hm))

set_option maxRecDepth 100000 in
set_option maxHeartbeats 4000000 in
theorem rencode_any (v : ImgV) (x : Img) (w : World) (h : ImgAt w v x) (hr : RightI x) : Calls Tryd.prog 9 #[.agg (imgCells v x).toArray] w (RetWs w (wordsI x)) := by
  obtain ⟨W1, hW1⟩ : ∃ W1, (w.alloc (.cells (imgCells v x).toArray 26)).alloc (.cells (iv (headI x)).toArray 3) = W1 := ⟨_, rfl⟩
  have b0 : Blk W1 w.heap.size 26 (imgCells v x).toArray := by rw [← hW1]; exact (Blk.new _ _ _).alloc _
  have b1 : Blk W1 (w.heap.size + 1) 3 (iv (headI x)).toArray := by
    rw [← hW1]; have := Blk.new (w.alloc (.cells (imgCells v x).toArray 26)) 3 (iv (headI x)).toArray; rwa [World.size_alloc] at this
  have K1 : Keep [] w W1 := by rw [← hW1]; exact ((Keep.refl _ w).alloc _).alloc _
  have HSF : Hid (∀ w', Blk w' w.heap.size 26 (imgCells v x).toArray → w'.cell? ⟨w.heap.size, 0, none⟩ = some (.int .i64 x.res) ∧ w'.cell? ⟨w.heap.size, 1, none⟩ = some (.slice v.ta x.tasks.length v.tc) ∧ w'.cell? ⟨w.heap.size, 2, none⟩ = some (.slice v.ma x.modes.length v.mc) ∧ w'.cell? ⟨w.heap.size, 3, none⟩ = some (.slice v.ea x.edges.length v.ec)) :=
    fun w' h => ⟨by rw [h.cell]; rfl, by rw [h.cell]; rfl, by rw [h.cell]; rfl, by rw [h.cell]; rfl⟩
  have HX := Lib.hid h
  have HRI := Lib.hid hr
  have hl1 := h.lt
  have hl2 := h.lm
  have hl3 := h.le
  unfold maxLen at hl1 hl2 hl3
  have HP0 := Lib.hid (put_any w W1 (.slice none 0 0) [] (headI x) (some ⟨w.heap.size + 1, 0, none⟩) 5 ((OwnZ.nil w).keep0 K1) (fun w' k => reads_blk (b1.keep k (by simp [Value.ownBlock]))) (by simp [headI]))
  have HW : Hid ((w.alloc (.cells (imgCells v x).toArray 26)).alloc (.cells #[.int .i64 1380273457, .int .i64 x.res, .int .i64 x.tasks.length, .int .i64 x.modes.length, .int .i64 x.edges.length] 3) = W1) := hW1
  obtain ⟨f0, f1, f2, f3⟩ := HSF.out _ (Blk.new w 26 (imgCells v x).toArray)
  clear hW1 h hr
  generalize hcs : (imgCells v x).toArray = cs at *
  go_enter Tryd.func9, Tryd.ntmps9
  go_wp2_with (rw [HW.out])
  refine HP0.out.mono ?_
  rintro e w2 ⟨V, rfl, hO, hk⟩
  have b2 := b0.keep hk (by simp [Value.ownBlock])
  go_wp2
  have hO2 : OwnZ w w2 V (headI x) := hO
  clear hO hk b0 b1 K1 HP0 HW f0 f1 f2 f3
  go_loopw [3, 4] (fun V' vi wr => ∃ k : Nat, k ≤ x.tasks.length ∧ vi = .int .i64 (k : Int) ∧ OwnZ w wr V' (headI x ++ (x.tasks.take k).flatMap wordsT) ∧ Blk wr w.heap.size 26 cs) (fun _ vi _ => x.tasks.length - (intOf vi).toNat)
  case atStart => exact ⟨0, Nat.zero_le _, rfl, by simpa using hO2, b2⟩
  case round =>
    clear hO2 b2
    obtain ⟨k, hk, rfl, hO, hb⟩ := hrel
    obtain ⟨f0, f1, f2, f3⟩ := HSF.out _ hb
    by_cases hlt : k < x.tasks.length
    · have HI := HX.out.keep0 hO.keep
      obtain ⟨tb, to, hA, htb, hcs2⟩ := HI.task (by omega)
      have hq := Lib.hid (hcs2 k hlt)
      have hl8 := HX.out.ok.lon _ (List.getElem_mem hlt)
      have HTC : Hid ((tskCells x.tasks[k]).length = 11) := tskCells_len hl8
      have hone : ∀ u, u ∈ tskCells x.tasks[k] → u.oneCell' = true := iv_one _
      obtain ⟨U, hU⟩ : ∃ U, wr.alloc (.cells (List.replicate 11 (.int .i64 0)).toArray 57) = U := ⟨_, rfl⟩
      have KU : Keep [] wr U := by rw [← hU]; exact (Keep.refl _ wr).alloc _
      have bU : Blk U wr.heap.size 57 (List.replicate 11 (.int .i64 0)).toArray := by rw [← hU]; exact Blk.new _ _ _
      have hst := run_storeCells_blk (P := Tryd.prog) (tskCells x.tasks[k]) ⟨wr.heap.size, 0, none⟩ 0 0 rfl bU hone (by rw [HTC.out]; simp)
      obtain ⟨d1, KS⟩ := storeRow_blk (tskCells x.tasks[k]) 0 bU
      rw [splice_all (tskCells x.tasks[k]) _ (by rw [HTC.out]; simp)] at d1
      rw [Nat.add_zero] at hst
      generalize storeRow U wr.heap.size 0 (tskCells x.tasks[k]) = w6 at *
      have K6 : Keep [] wr w6 := KU.trans KS (fun y hy hlt => by simp at hy; omega)
      have O6 := hO.keep0 K6
      have b6 := hb.keep K6 (by simp)
      have hU' : wr.alloc (.cells #[.int .i64 0, .int .i64 0, .int .i64 0, .int .i64 0, .int .i64 0, .int .i64 0, .int .i64 0, .int .i64 0, .int .i64 0, .int .i64 0, .int .i64 0] 57) = U := hU
      have HU := Lib.hid hU'
      have hsuc := Lib.hid (fm_take wordsT x.tasks k hlt)
      have HPL := Lib.hid (Nat.le_trans (words_pre1 x k hlt).length_le (HRI.out.words_len HX.out.ok))
      have HTS : Hid (∀ w', Blk w' wr.heap.size 57 (tskCells x.tasks[k]).toArray → w'.cell? ⟨wr.heap.size, 0, none⟩ = some (.int .i64 x.tasks[k].per) ∧ w'.cell? ⟨wr.heap.size, 1, none⟩ = some (.int .i64 x.tasks[k].ded) ∧ w'.cell? ⟨wr.heap.size, 2, none⟩ = some (.int .i64 x.tasks[k].cost) ∧ ∀ j, j < 8 → w'.cell? ⟨wr.heap.size, 3 + j, none⟩ = some (.int .i64 (x.tasks[k].lon.getD j 0))) := fun w' hb => by
        refine ⟨by rw [hb.cell]; rfl, by rw [hb.cell]; rfl, by rw [hb.cell]; rfl, fun j hj => ?_⟩
        refine tsk_lonAt hb j _ ?_
        rw [iv_get (by omega), List.getD_eq_getElem?_getD, List.getElem?_eq_getElem (by omega)]; rfl
      have hk1 : (k : Int) < (x.tasks.length : Int) := by omega
      have hk0 : (0 : Int) ≤ (k : Int) := by omega
      have HWT : Hid (wordsT x.tasks[k] = [x.tasks[k].per, x.tasks[k].ded, x.tasks[k].cost, (usesB x.tasks[k].lon 8 : Nat)] ++ (usesK x.tasks[k].lon 8).map Prod.snd) := show _ = _ from rfl
      clear f0 f1 f2 f3
      obtain ⟨f0, f1, f2, f3⟩ := HSF.out _ hb
      rw [hA] at *
      clear hU hU' KU bU KS hcs2 hone HI
      generalize x.tasks[k] = t at *
      generalize hpr : headI x ++ (x.tasks.take k).flatMap wordsT = pre at *
      generalize tskCells t = tc at *
      go_wp2_with (first
        | rw [HU.out]
        | (refine wpList_load_agg rfl 57 (.tmp 38) rfl rfl (cs := tc) (by rw [HTC.out]; exact agg_task) hq.out ?_))
      generalize wr = wo at *
      go_loopw [6, 7, 8] (fun vset vlong vr wq => ∃ j : Nat, j ≤ 8 ∧ vr = .int .i64 (j : Int) ∧ vset = .int .i64 (usesB t.lon j : Nat) ∧ OwnN w6 wq vlong ((usesK t.lon j).map Prod.snd)) (fun _ _ vr _ => 8 - (intOf vr).toNat)
      case atStart => exact ⟨0, Nat.zero_le _, rfl, rfl, OwnN.nil _⟩
      case round =>
        obtain ⟨j, hj, rfl, rfl, hN⟩ := hrel
        have dj := d1.keep hN.keep (by simp)
        obtain ⟨g0, g1, g2, g3⟩ := HTS.out _ dj
        by_cases hj8 : j < 8
        · have gj := g3 j hj8
          have hj1 : (j : Int) < 8 := by omega
          have hj0 : (0 : Int) ≤ (j : Int) := by omega
          obtain ⟨z, hzd⟩ : ∃ z, t.lon.getD j 0 = z := ⟨_, rfl⟩
          rw [hzd] at gj
          by_cases hz : 0 < z
          · have HS : Hid ((usesK t.lon (j + 1)).map Prod.snd = (usesK t.lon j).map Prod.snd ++ [z]) := by show _ = _; rw [usesK, hzd, if_pos hz]; simp
            have HB := Lib.hid (usesB_wrap t.lon j hj8 (by rw [hzd]; exact hz))
            clear g3 hzd
            have hrow := hN.row
            have hln := usesK_le t.lon j
            rw [List.length_map] at hrow
            have hsz := hN.keep.size
            go_wp2_with (at_builtin; refine wpList_append_one rfl (.tmp 54) (.tmp 59) 62 rfl slice_int2 hrow rfl rfl (us := [.int .i64 z]) rfl (by simp [Value.oneCell']) hsz (by omega) (by unfold maxLen; omega) ?_; intro v' w7 hown1 hgrow1 hat1)
            refine ⟨⟨j + 1, by omega, by go_num, by rw [HB.out], ?_⟩, ?_⟩
            · rw [HS.out]
              refine hN.app hgrow1 ?_
              rw [List.length_append, List.length_map]
              simpa [iv] using hown1
            · simp [intOf]
              omega
          · have HS : Hid (usesK t.lon (j + 1) = usesK t.lon j) := by show _ = _; rw [usesK, hzd, if_neg hz, List.append_nil]
            have HB : Hid (usesB t.lon (j + 1) = usesB t.lon j) := by show _ = _; rw [usesB, hzd, if_neg hz]; rfl
            have hz0 : z ≤ 0 := by omega
            clear hz g3 hzd
            go_wp2
            go_roundw
            case rel => exact ⟨j + 1, by omega, by go_num, by rw [HB.out], by rw [HS.out]; exact hN⟩
            case measure => simp [intOf] <;> omega
        · obtain rfl : j = 8 := by omega
          generalize (usesK t.lon 8).map Prod.snd = ul at *
          obtain ⟨lA, lc, rfl⟩ := own_shape hN.row
          have O7 := O6.keep0 hN.keep
          have b7 := b6.keep hN.keep (by simp)
          obtain ⟨V7, hV7⟩ : ∃ V7, wr.alloc (.cells (iv [t.per, t.ded, t.cost, (usesB t.lon 8 : Nat)]).toArray 3) = V7 := ⟨_, rfl⟩
          have K7 : Keep [] wr V7 := by rw [← hV7]; exact (Keep.refl _ wr).alloc _
          have B7 : Blk V7 wr.heap.size 3 (iv [t.per, t.ded, t.cost, (usesB t.lon 8 : Nat)]).toArray := by rw [← hV7]; exact Blk.new _ _ _
          have Q7 := O7.keep0 K7
          have hpl := HPL.out
          rw [HWT.out] at hpl
          clear HPL
          simp at hpl
          have hP1 := Lib.hid (put_any w V7 u3 pre [t.per, t.ded, t.cost, (usesB t.lon 8 : Nat)] (some ⟨wr.heap.size, 0, none⟩) 4 Q7 (fun w' k => reads_blk (Q7.blk k B7 (by decide))) (by simp; omega))
          have HV : Hid (wr.alloc (.cells #[.int .i64 t.per, .int .i64 t.ded, .int .i64 t.cost, .int .i64 (usesB t.lon 8 : Nat)] 3) = V7) := hV7
          clear hV7
          have hrow7 := own_keep0 hN.row K7
          go_wp2_with (rw [HV.out])
          refine hP1.out.mono ?_
          rintro e w8 ⟨V8, rfl, O8, k8⟩
          have hP2 := Lib.hid (put_any w w8 V8 (pre ++ [t.per, t.ded, t.cost, (usesB t.lon 8 : Nat)]) ul lA lc O8 (fun w' k => Reads.of_own (row_apart O8 (row_apart Q7 hrow7 k8) k)) (by simp; omega))
          go_wp2_with fail
          refine hP2.out.mono ?_
          rintro e w9 ⟨V9, rfl, O9, k9⟩
          have b9 := O8.blk k9 (Q7.blk k8 (b7.keep K7 (by simp)) (by decide)) (by decide)
          clear hP1 hP2
          go_wp2
          go_roundw
          case rel => exact ⟨k + 1, by omega, by go_num, by rw [hsuc.out, ← List.append_assoc, hpr, HWT.out, ← List.append_assoc]; exact O9, b9⟩
          case measure => simp [intOf] <;> omega
    · obtain rfl : k = x.tasks.length := by omega
      rw [List.take_length] at hO
      go_wp2
      go_loopw [3, 9] (fun V' vi wr => ∃ k : Nat, k ≤ x.modes.length ∧ vi = .int .i64 (k : Int) ∧ OwnZ w wr V' (headI x ++ (x.tasks.flatMap wordsT ++ (x.modes.take k).flatMap wordsM)) ∧ Blk wr w.heap.size 26 cs) (fun _ vi _ => x.modes.length - (intOf vi).toNat)
      case atStart => exact ⟨0, Nat.zero_le _, rfl, by simpa using hO, hb⟩
      case round =>
        clear hO hb hlt hk f0 f1 f2 f3
        obtain ⟨k, hk, rfl, hO, hb⟩ := hrel
        obtain ⟨f0, f1, f2, f3⟩ := HSF.out _ hb
        by_cases hlt : k < x.modes.length
        · obtain ⟨mb, mo, hA, hmb, hcs2⟩ := HX.out.mode (by omega)
          obtain ⟨qA, qc, hq0, hrd⟩ := hcs2 k hlt
          have hq := Lib.hid (hq0.keep0 hO.keep hmb)
          have HLQ := Lib.hid (HX.out.lq _ (List.getElem_mem hlt))
          have hset := HX.out.ok.set _ (List.getElem_mem hlt)
          have hsuc := Lib.hid (fm_take wordsM x.modes k hlt)
          have HPL := Lib.hid (Nat.le_trans (words_pre2 x k hlt).length_le (HRI.out.words_len HX.out.ok))
          have HWM : Hid (wordsM x.modes[k] = [(x.modes[k].set : Int), (x.modes[k].qs.length : Int)] ++ x.modes[k].qs.flatMap queInts) := show _ = _ from rfl
          have hk1 : (k : Int) < (x.modes.length : Int) := by omega
          have hk0 : (0 : Int) ≤ (k : Int) := by omega
          have HRD := Lib.hid hrd
          clear f0 f1 f2 f3 hrd hq0 hcs2
          obtain ⟨f0, f1, f2, f3⟩ := HSF.out _ hb
          rw [hA] at *
          generalize x.modes[k] = mk at *
          generalize hpr : headI x ++ (x.tasks.flatMap wordsT ++ (x.modes.take k).flatMap wordsM) = pre at *
          have HSM : Hid (u32v (mk.set : Int) = .int .u32 (mk.set : Int)) := by show _ = _; unfold u32v; congr 1; omega
          have hqs : Hid (CellsAt wr mb (mo + k * 2) [.int .u32 (mk.set : Int), .slice qA mk.qs.length qc]) := hq
          obtain ⟨U, hU⟩ : ∃ U, wr.alloc (.cells #[.int .u32 (mk.set : Int), .slice qA mk.qs.length qc] 47) = U := ⟨_, rfl⟩
          have KU : Keep [] wr U := by rw [← hU]; exact (Keep.refl _ wr).alloc _
          have dU : Blk U wr.heap.size 47 #[.int .u32 (mk.set : Int), .slice qA mk.qs.length qc] := by rw [← hU]; exact Blk.new _ _ _
          have OU := hO.keep0 KU
          have bU := hb.keep KU (by simp)
          have HU := Lib.hid hU
          have g0 := dU.cell 0
          have g1 := dU.cell 1
          simp at g0 g1
          have hrow := OU.row
          have hsz := OU.keep.size
          have hpl := HPL.out
          rw [HWM.out] at hpl
          simp only [List.length_append, List.length_cons, List.length_nil] at hpl
          clear hU hq
          generalize hqn : mk.qs.length = qn at *
          generalize hms : (mk.set : Int) = ms at *
          go_wp2_with (first
            | rw [HU.out]
            | (refine wpList_load_agg rfl 47 (.tmp 83) rfl rfl (cs := [.int .u32 ms, .slice qA qn qc]) agg_mode hqs.out ?_)
            | (at_builtin; refine wpList_app_many 2 rfl (.tmp 85) (.tmp 92) 28 rfl slice_u32w hrow rfl rfl (us := [.int .u32 ms, u32v (qn : Int)]) rfl (by simp [u32v, Value.oneCell']) hsz (by omega) (by unfold maxLen; omega) ?_; intro v' w7 hown1 hgrow1 hat1))
          have hl2 : (pre ++ [ms, (qn : Int)]).length = pre.length + 2 := by simp
          have O7 : OwnZ w w7 v' (pre ++ [ms, (qn : Int)]) := OU.app hgrow1 (by
            rw [hl2, wordV_append]
            have : wordV [ms, (qn : Int)] = [.int .u32 ms, u32v (qn : Int)] := by rw [← HSM.out]; rfl
            rw [this]; exact hown1)
          have d7 := OU.blk hgrow1 dU (by decide)
          have b7 := OU.blk hgrow1 bU (by decide)
          clear OU dU bU hrow hown1 hgrow1 hat1 g0 g1 hsz HU KU hO hb
          generalize wr = wo at *
          go_loopw [3, 11] (fun V' vi wr => ∃ j : Nat, j ≤ qn ∧ vi = .int .i64 (j : Int) ∧ OwnZ w wr V' ((pre ++ [ms, (qn : Int)]) ++ (mk.qs.take j).flatMap queInts) ∧ Blk wr wo.heap.size 47 #[.int .u32 ms, .slice qA qn qc] ∧ Blk wr w.heap.size 26 cs) (fun _ vi _ => qn - (intOf vi).toNat)
          case atStart => exact ⟨0, Nat.zero_le _, rfl, by simpa using O7, d7, b7⟩
          case round =>
            clear O7 d7 b7 f0 f1 f2 f3
            obtain ⟨j, hj, rfl, hO, hd, hb⟩ := hrel
            have g1 := hd.cell 1
            simp at g1
            have hlq := HLQ.out
            unfold maxLen at hlq
            by_cases hjq : j < qn
            · have hjq' : j < mk.qs.length := by omega
              obtain ⟨qb, qo, hqA, hqb, hcs2⟩ := (HRD.out.keep0 hO.keep).elems hqn (fun _ _ => rfl) (by omega)
              have hq2 : CellsAt wr qb (qo + j * 2) [.int .i64 mk.qs[j].cap, .int .i64 mk.qs[j].pol] := hcs2 j hjq'
              have hsq := Lib.hid (takeQ_succ mk.qs j hjq')
              have hsp := Lib.hid (flatQ_at mk.qs j hjq')
              have hj1 : (j : Int) < (qn : Int) := by omega
              have hj0 : (0 : Int) ≤ (j : Int) := by omega
              rw [hqA] at g1
              have hF : ∀ w', Keep [] wr w' → w'.cell? ⟨wo.heap.size, 1, none⟩ = some (.slice (some ⟨qb, qo, none⟩) qn qc) ∧ w'.cell? ⟨qb, qo + j * 2, none⟩ = some (.int .i64 mk.qs[j].cap) ∧ w'.cell? ⟨qb, qo + j * 2 + 1, none⟩ = some (.int .i64 mk.qs[j].pol) := fun w' hk => by
                refine ⟨(hk.cell (p := ⟨wo.heap.size, 1, none⟩) hd.lt (by simp)).trans g1, (hk.cell (p := ⟨qb, qo + j * 2, none⟩) hqb (by simp)).trans ?_, (hk.cell (p := ⟨qb, qo + j * 2 + 1, none⟩) hqb (by simp)).trans (hq2 1 _ rfl)⟩
                have := hq2 0 _ rfl
                rwa [Nat.add_zero] at this
              have hpl2 : ((mk.qs.take j).flatMap queInts).length + 2 ≤ (mk.qs.flatMap queInts).length := by rw [hsp.out]; simp
              generalize mk.qs[j].cap = qcap at *
              generalize mk.qs[j].pol = qpol at *
              generalize hP3 : (pre ++ [ms, (qn : Int)]) ++ (mk.qs.take j).flatMap queInts = p3 at *
              have hp3 : p3.length + 2 ≤ 2000 := by rw [← hP3]; simp only [List.length_append, List.length_cons, List.length_nil]; omega
              have HPT : Hid (∀ w', Keep [] wr w' → Calls Tryd.prog 21 #[u3, .slice (some ⟨w'.heap.size, 0, none⟩) 2 2] (w'.alloc (.cells #[.int .i64 qcap, .int .i64 qpol] 3)) (RetPut w (w'.alloc (.cells #[.int .i64 qcap, .int .i64 qpol] 3)) u3 (p3 ++ [qcap, qpol]))) := fun w' hk =>
                put_any w (w'.alloc (.cells #[.int .i64 qcap, .int .i64 qpol] 3)) u3 p3 [qcap, qpol] (some ⟨w'.heap.size, 0, none⟩) 2 ((hO.keep0 hk).keep0 ((Keep.refl _ _).alloc _)) (fun w2 k2 => reads_blk (((hO.keep0 hk).keep0 ((Keep.refl _ _).alloc _)).blk k2 (Blk.new w' 3 #[.int .i64 qcap, .int .i64 qpol]) (by decide))) (by simp; omega)
              go_wp2
              refine ap_begin 14 (Keep [] wr) rfl (Keep.refl _ _).drew (fun hS hPan => ?_) (fun _ _ d _ _ h => by cases d <;> exact h)
              (refine ap_val (v := ?_) 0 rfl (by kernel_rfl) (by kernel_rfl) (by kernel_rfl) (by kernel_rfl) (by rfl) hPan ?_ hS ?_; rotate_left; (intro w' hSw; obtain ⟨f1,f2,f3⟩ := hF w' hSw; go_simp; try with_reducible rfl); simp only [Act.put, List.setIfInBounds_toArray, List.set_cons_zero, List.set_cons_succ])
              (refine ap_val (v := ?_) 1 rfl (by kernel_rfl) (by kernel_rfl) (by kernel_rfl) (by kernel_rfl) (by rfl) hPan ?_ hS ?_; rotate_left; (intro w' hSw; obtain ⟨f1,f2,f3⟩ := hF w' hSw; go_simp; try with_reducible rfl); simp only [Act.put, List.setIfInBounds_toArray, List.set_cons_zero, List.set_cons_succ])
              (refine ap_val (v := ?_) 2 rfl (by kernel_rfl) (by kernel_rfl) (by kernel_rfl) (by kernel_rfl) (by rfl) hPan ?_ hS ?_; rotate_left; (intro w' hSw; obtain ⟨f1,f2,f3⟩ := hF w' hSw; go_simp; try with_reducible rfl); simp only [Act.put, List.setIfInBounds_toArray, List.set_cons_zero, List.set_cons_succ])
              (refine ap_val (v := ?_) 3 rfl (by kernel_rfl) (by kernel_rfl) (by kernel_rfl) (by kernel_rfl) (by rfl) hPan ?_ hS ?_; rotate_left; (intro w' hSw; obtain ⟨f1,f2,f3⟩ := hF w' hSw; go_simp; try with_reducible rfl); simp only [Act.put, List.setIfInBounds_toArray, List.set_cons_zero, List.set_cons_succ])
              (refine ap_val (v := ?_) 4 rfl (by kernel_rfl) (by kernel_rfl) (by kernel_rfl) (by kernel_rfl) (by rfl) hPan ?_ hS ?_; rotate_left; (intro w' hSw; obtain ⟨f1,f2,f3⟩ := hF w' hSw; go_simp; try with_reducible rfl); simp only [Act.put, List.setIfInBounds_toArray, List.set_cons_zero, List.set_cons_succ])
              (refine ap_val (v := ?_) 5 rfl (by kernel_rfl) (by kernel_rfl) (by kernel_rfl) (by kernel_rfl) (by rfl) hPan ?_ hS ?_; rotate_left; (intro w' hSw; obtain ⟨f1,f2,f3⟩ := hF w' hSw; go_simp; try with_reducible rfl); simp only [Act.put, List.setIfInBounds_toArray, List.set_cons_zero, List.set_cons_succ])
              (refine ap_val (v := ?_) 6 rfl (by kernel_rfl) (by kernel_rfl) (by kernel_rfl) (by kernel_rfl) (by rfl) hPan ?_ hS ?_; rotate_left; (intro w' hSw; obtain ⟨f1,f2,f3⟩ := hF w' hSw; go_simp; try with_reducible rfl); simp only [Act.put, List.setIfInBounds_toArray, List.set_cons_zero, List.set_cons_succ])
              (refine ap_val (v := ?_) 7 rfl (by kernel_rfl) (by kernel_rfl) (by kernel_rfl) (by kernel_rfl) (by rfl) hPan ?_ hS ?_; rotate_left; (intro w' hSw; obtain ⟨f1,f2,f3⟩ := hF w' hSw; go_simp; try with_reducible rfl); simp only [Act.put, List.setIfInBounds_toArray, List.set_cons_zero, List.set_cons_succ])
              (refine ap_val (v := ?_) 8 rfl (by kernel_rfl) (by kernel_rfl) (by kernel_rfl) (by kernel_rfl) (by rfl) hPan ?_ hS ?_; rotate_left; (intro w' hSw; obtain ⟨f1,f2,f3⟩ := hF w' hSw; go_simp; try with_reducible rfl); simp only [Act.put, List.setIfInBounds_toArray, List.set_cons_zero, List.set_cons_succ])
              (refine ap_val (v := ?_) 9 rfl (by kernel_rfl) (by kernel_rfl) (by kernel_rfl) (by kernel_rfl) (by rfl) hPan ?_ hS ?_; rotate_left; (intro w' hSw; obtain ⟨f1,f2,f3⟩ := hF w' hSw; go_simp; try with_reducible rfl); simp only [Act.put, List.setIfInBounds_toArray, List.set_cons_zero, List.set_cons_succ])
              (refine ap_val (v := ?_) 10 rfl (by kernel_rfl) (by kernel_rfl) (by kernel_rfl) (by kernel_rfl) (by rfl) hPan ?_ hS ?_; rotate_left; (intro w' hSw; obtain ⟨f1,f2,f3⟩ := hF w' hSw; go_simp; try with_reducible rfl); simp only [Act.put, List.setIfInBounds_toArray, List.set_cons_zero, List.set_cons_succ])
              (refine ap_val (v := ?_) 11 rfl (by kernel_rfl) (by kernel_rfl) (by kernel_rfl) (by kernel_rfl) (by rfl) hPan ?_ hS ?_; rotate_left; (intro w' hSw; obtain ⟨f1,f2,f3⟩ := hF w' hSw; go_simp; try with_reducible rfl); simp only [Act.put, List.setIfInBounds_toArray, List.set_cons_zero, List.set_cons_succ])
              (refine ap_val (v := ?_) 12 rfl (by kernel_rfl) (by kernel_rfl) (by kernel_rfl) (by kernel_rfl) (by rfl) hPan ?_ hS ?_; rotate_left; (intro w' hSw; obtain ⟨f1,f2,f3⟩ := hF w' hSw; go_simp; try with_reducible rfl); simp only [Act.put, List.setIfInBounds_toArray, List.set_cons_zero, List.set_cons_succ])
              refine ap_one 13 (by kernel_rfl) ?_
              refine op_run (v := .slice (some ⟨wr.drew.heap.size, 0, none⟩) 2 2) (w' := wr.drew.alloc (.cells #[.int .i64 qcap, .int .i64 qpol] 3)) 13 rfl (by rfl) (by go_simp) ?_
              refine ⟨fun _ => hS.alloc _, ?_⟩
              (simp only [Act.put, List.setIfInBounds_toArray, List.set_cons_zero, List.set_cons_succ])
              refine ap_one 14 (by kernel_rfl) ?_
              refine op_call (f := 21) 14 rfl (by rfl) rfl (by simp only [List.map_toArray, List.map_cons, List.map_nil]; rfl) Tryd.func21 (by kernel_rfl) (by kernel_rfl) (HPT.out _ hS) ?_
              rintro e w8 ⟨V8, rfl, O8, k8⟩
              refine ⟨_, rfl, fun h => (by simp at h), ?_⟩
              (simp only [Act.put, List.setIfInBounds_toArray, List.set_cons_zero, List.set_cons_succ])
              refine ap_one 15 (by kernel_rfl) ?_
              refine op_run (v := V8) (w' := w8) 15 rfl (by rfl) (by go_simp) ?_
              refine ⟨fun h => (by simp at h), ap_done (by kernel_rfl) ?_ _⟩
              have KA := hS.alloc (.cells #[.int .i64 qcap, .int .i64 qpol] 3)
              have d8 := (hO.keep0 KA).blk k8 (hd.keep KA (by simp)) (by decide)
              have b8 := (hO.keep0 KA).blk k8 (hb.keep KA (by simp)) (by decide)
              clear HPT hF hS hPan
              (simp only [Act.put, List.setIfInBounds_toArray, List.set_cons_zero, List.set_cons_succ])
              go_wp2
              go_roundw
              case rel => exact ⟨j + 1, by omega, by go_num, by rw [hsq.out, ← List.append_assoc, hP3]; exact O8, d8, b8⟩
              case measure => simp [intOf] <;> omega
            · obtain rfl : j = qn := by omega
              rw [List.take_of_length_le (by omega)] at hO
              go_wp2
              go_roundw
              case rel => exact ⟨k + 1, by omega, by go_num, by rw [hsuc.out, HWM.out]; simpa [← hpr, List.append_assoc, hms] using hO, hb⟩
              case measure => simp [intOf] <;> omega
        · obtain rfl : k = x.modes.length := by omega
          rw [List.take_length] at hO
          go_wp2
          go_loopw [3, 12] (fun V' vi wr => ∃ k : Nat, k ≤ x.edges.length ∧ vi = .int .i64 (k : Int) ∧ OwnZ w wr V' (headI x ++ (x.tasks.flatMap wordsT ++ (x.modes.flatMap wordsM ++ (x.edges.take k).flatMap (wordsE x)))) ∧ Blk wr w.heap.size 26 cs) (fun _ vi _ => x.edges.length - (intOf vi).toNat)
          case atStart => exact ⟨0, Nat.zero_le _, rfl, by simpa using hO, hb⟩
          case round =>
            clear hO hb hlt hk f0 f1 f2 f3
            obtain ⟨k, hk, rfl, hO, hb⟩ := hrel
            obtain ⟨f0, f1, f2, f3⟩ := HSF.out _ hb
            by_cases hlt : k < x.edges.length
            · have HI := HX.out.keep0 hO.keep
              obtain ⟨eb, eo, hA, heb, hcs2⟩ := HI.edge (by omega)
              have hq := Lib.hid (hcs2 k hlt)
              have hof := HX.out.ok.offs _ (List.getElem_mem hlt)
              have hmp := HX.out.ok.mp _ (List.getElem_mem hlt)
              have HEC : Hid ((edgCells x.edges[k]).length = 23) := edgCells_len hof hmp
              have hone : ∀ u, u ∈ edgCells x.edges[k] → u.oneCell' = true := iv_one _
              obtain ⟨⟨hf1, hf2⟩, ⟨ht1, ht2⟩, _, _⟩ := HRI.out.edgeIn k hlt
              have hfr := HRI.out.fresh_lt HX.out.ok x.edges[k]
              have hsuc := Lib.hid (fm_take (wordsE x) x.edges k hlt)
              have HPL := Lib.hid (Nat.le_trans (words_pre3 x k hlt).length_le (HRI.out.words_len HX.out.ok))
              have HWE : Hid (wordsE x x.edges[k] = [x.edges[k].frm, x.edges[k].to, x.edges[k].prot, x.edges[k].mp.getD 0 0, x.edges[k].mp.getD 1 0, x.edges[k].mp.getD 2 0, x.edges[k].mp.getD 3 0] ++ if x.edges[k].prot = 3 then frK (freshN x x.edges[k]) x.edges[k].offs 16 else []) := by
                show _ = _
                have h4 : ∀ l : List Int, l.length = 4 → l = [l.getD 0 0, l.getD 1 0, l.getD 2 0, l.getD 3 0] := fun l h => by
                  match l, h with
                  | [_, _, _, _], _ => rfl
                unfold wordsE
                rw [frK_bits _ _ hfr]
                conv => lhs; rw [h4 _ hmp]
                rfl
              have HES : Hid (∀ w', Blk w' wr.heap.size 70 (edgCells x.edges[k]).toArray → (w'.cell? ⟨wr.heap.size, 0, none⟩ = some (.int .i64 x.edges[k].frm) ∧ w'.cell? ⟨wr.heap.size, 1, none⟩ = some (.int .i64 x.edges[k].to) ∧ w'.cell? ⟨wr.heap.size, 2, none⟩ = some (.int .i64 x.edges[k].prot)) ∧
                  (∀ j, j < 4 → w'.cell? ⟨wr.heap.size, 19 + j, none⟩ = some (.int .i64 (x.edges[k].mp.getD j 0))) ∧ ∀ j, j < 16 → w'.cell? ⟨wr.heap.size, 3 + j, none⟩ = some (.int .i64 (x.edges[k].offs.getD j 0))) := fun w' hb => by
                have hc : ∀ j u, (edgCells x.edges[k])[j]? = some u → w'.cell? ⟨wr.heap.size, j, none⟩ = some u := fun j u hu => by rw [hb.cell]; simpa using hu
                have e0 : edgCells x.edges[k] = iv [x.edges[k].frm, x.edges[k].to, x.edges[k].prot] ++ (iv x.edges[k].offs ++ iv x.edges[k].mp) := by simp [edgCells, edgInts, iv]
                refine ⟨⟨hc 0 _ rfl, hc 1 _ rfl, hc 2 _ rfl⟩, fun j hj => hc _ _ ?_, fun j hj => hc _ _ ?_⟩
                · rw [e0, List.getElem?_append_right (by simp [iv]; omega), List.getElem?_append_right (by simp [iv, hof]; omega)]
                  have : 19 + j - (iv [x.edges[k].frm, x.edges[k].to, x.edges[k].prot]).length - (iv x.edges[k].offs).length = j := by simp [iv, hof]; omega
                  rw [this, iv_get (by omega), List.getD_eq_getElem?_getD, List.getElem?_eq_getElem (by omega)]; rfl
                · rw [e0, List.getElem?_append_right (by simp [iv]), List.getElem?_append_left (by simp [iv, hof]; omega)]
                  have : 3 + j - (iv [x.edges[k].frm, x.edges[k].to, x.edges[k].prot]).length = j := by simp [iv]
                  rw [this, iv_get (by omega), List.getD_eq_getElem?_getD, List.getElem?_eq_getElem (by omega)]; rfl
              obtain ⟨U, hU⟩ : ∃ U, wr.alloc (.cells (List.replicate 23 (.int .i64 0)).toArray 70) = U := ⟨_, rfl⟩
              have KU : Keep [] wr U := by rw [← hU]; exact (Keep.refl _ wr).alloc _
              have bU : Blk U wr.heap.size 70 (List.replicate 23 (.int .i64 0)).toArray := by rw [← hU]; exact Blk.new _ _ _
              have hst := run_storeCells_blk (P := Tryd.prog) (edgCells x.edges[k]) ⟨wr.heap.size, 0, none⟩ 0 0 rfl bU hone (by rw [HEC.out]; simp)
              obtain ⟨d1, KS⟩ := storeRow_blk (edgCells x.edges[k]) 0 bU
              rw [splice_all (edgCells x.edges[k]) _ (by rw [HEC.out]; simp)] at d1
              rw [Nat.add_zero] at hst
              generalize storeRow U wr.heap.size 0 (edgCells x.edges[k]) = w6 at *
              have K6 : Keep [] wr w6 := KU.trans KS (fun y hy hlt => by simp at hy; omega)
              have O6 := hO.keep0 K6
              have b6 := hb.keep K6 (by simp)
              have hU' : wr.alloc (.cells #[.int .i64 0, .int .i64 0, .int .i64 0, .int .i64 0, .int .i64 0, .int .i64 0, .int .i64 0, .int .i64 0, .int .i64 0, .int .i64 0, .int .i64 0, .int .i64 0, .int .i64 0, .int .i64 0, .int .i64 0, .int .i64 0, .int .i64 0, .int .i64 0, .int .i64 0, .int .i64 0, .int .i64 0, .int .i64 0, .int .i64 0] 70) = U := hU
              have HU := Lib.hid hU'
              have hk1 : (k : Int) < (x.edges.length : Int) := by omega
              have hk0 : (0 : Int) ≤ (k : Int) := by omega
              obtain ⟨qt, hqt⟩ : ∃ qt : Nat, x.edges[k].to = (qt : Int) := ⟨x.edges[k].to.toNat, by omega⟩
              obtain ⟨qf, hqf⟩ : ∃ qf : Nat, x.edges[k].frm = (qf : Int) := ⟨x.edges[k].frm.toNat, by omega⟩
              obtain ⟨mb, mo, hmA, hmb, hcm⟩ := HX.out.mode (by omega)
              obtain ⟨_, _, hmt, -⟩ := hcm qt (by omega)
              obtain ⟨_, _, hmf, -⟩ := hcm qf (by omega)
              have hst1 := HX.out.ok.set _ (List.getElem_mem (show qt < x.modes.length by omega))
              have hsf1 := HX.out.ok.set _ (List.getElem_mem (show qf < x.modes.length by omega))
              have HFB : Hid (∀ q, q < 16 → (freshN x x.edges[k]).testBit q = ((x.modes[qt]'(by omega)).set.testBit q && !(x.modes[qf]'(by omega)).set.testBit q)) := fun q hq => by
                have e1 : setOf10 x x.edges[k].to = (x.modes[qt]'(by omega)).set := by
                  unfold setOf10
                  rw [hqt, if_pos (by omega), Int.toNat_natCast, List.getD_eq_getElem?_getD, List.getElem?_eq_getElem (by omega)]; rfl
                have e2 : setOf10 x x.edges[k].frm = (x.modes[qf]'(by omega)).set := by
                  unfold setOf10
                  rw [hqf, if_pos (by omega), Int.toNat_natCast, List.getD_eq_getElem?_getD, List.getElem?_eq_getElem (by omega)]; rfl
                unfold freshN
                rw [e1, e2, minusN_testBit _ _ _ hst1 hsf1]
              have HMT : Hid (∀ w', Keep [] w w' → w'.cell? ⟨mb, mo + qt * 2, none⟩ = some (.int .u32 ((x.modes[qt]'(by omega)).set : Int)) ∧ w'.cell? ⟨mb, mo + qf * 2, none⟩ = some (.int .u32 ((x.modes[qf]'(by omega)).set : Int))) := fun w' hk => by
                refine ⟨(hk.cell (p := ⟨mb, mo + qt * 2, none⟩) hmb (by simp)).trans ?_, (hk.cell (p := ⟨mb, mo + qf * 2, none⟩) hmb (by simp)).trans ?_⟩
                · have := hmt 0 _ rfl
                  rwa [Nat.add_zero] at this
                · have := hmf 0 _ rfl
                  rwa [Nat.add_zero] at this
              have hqt1 : (qt : Int) < (x.modes.length : Int) := by omega
              have hqf1 : (qf : Int) < (x.modes.length : Int) := by omega
              have hqt0 : (0 : Int) ≤ (qt : Int) := by omega
              have hqf0 : (0 : Int) ≤ (qf : Int) := by omega
              rw [hqt, hqf] at HWE HES
              have hqt2 : qt < x.modes.length := by omega
              have hqf2 : qf < x.modes.length := by omega
              clear hU hU' KU bU KS hcs2 hone HI hmt hmf hcm hfr hof hmp
              clear f0 f1 f2 f3
              obtain ⟨f0, f1, f2, f3⟩ := HSF.out _ hb
              rw [hA] at f3 ⊢
              rw [hmA] at f2 HSF ⊢
              generalize (x.modes[qt]'hqt2).set = st at *
              generalize (x.modes[qf]'hqf2).set = sf at *
              clear hf1 hf2 ht1 ht2 hqt hqf
              generalize freshN x x.edges[k] = fn at *
              generalize x.edges[k] = ed at *
              generalize hpr : headI x ++ (x.tasks.flatMap wordsT ++ (x.modes.flatMap wordsM ++ (x.edges.take k).flatMap (wordsE x))) = pre at *
              generalize hwe : wordsE x ed = wes at *
              generalize edgCells ed = ec at *
              obtain ⟨⟨g0, g1, g2⟩, gm, _⟩ := HES.out _ d1
              have m0 := gm 0 (by decide)
              have m1 := gm 1 (by decide)
              have m2 := gm 2 (by decide)
              have m3 := gm 3 (by decide)
              simp only [Nat.reduceAdd] at m0 m1 m2 m3
              generalize ed.mp.getD 0 0 = y0 at *
              generalize ed.mp.getD 1 0 = y1 at *
              generalize ed.mp.getD 2 0 = y2 at *
              generalize ed.mp.getD 3 0 = y3 at *
              clear gm
              have hpl := HPL.out
              rw [HWE.out] at hpl
              simp only [List.length_append, List.length_cons, List.length_nil] at hpl
              obtain ⟨V7, hV7⟩ : ∃ V7, w6.alloc (.cells (iv [(qf : Int), (qt : Int), ed.prot, y0, y1, y2, y3]).toArray 3) = V7 := ⟨_, rfl⟩
              have K7 : Keep [] w6 V7 := by rw [← hV7]; exact (Keep.refl _ w6).alloc _
              have B7 : Blk V7 w6.heap.size 3 (iv [(qf : Int), (qt : Int), ed.prot, y0, y1, y2, y3]).toArray := by rw [← hV7]; exact Blk.new _ _ _
              have Q7 := O6.keep0 K7
              have hP1 := Lib.hid (put_any w V7 u3 pre [(qf : Int), (qt : Int), ed.prot, y0, y1, y2, y3] (some ⟨w6.heap.size, 0, none⟩) 7 Q7 (fun w' k => reads_blk (Q7.blk k B7 (by decide))) (by simp; omega))
              have HV : Hid (w6.alloc (.cells #[.int .i64 (qf : Int), .int .i64 (qt : Int), .int .i64 ed.prot, .int .i64 y0, .int .i64 y1, .int .i64 y2, .int .i64 y3] 3) = V7) := hV7
              clear hV7
              go_wp2_with (first
                | rw [HU.out]
                | rw [HV.out]
                | (refine wpList_load_agg rfl 70 (.tmp 126) rfl rfl (cs := ec) (by rw [HEC.out]; exact agg_edge) hq.out ?_))
              refine hP1.out.mono ?_
              rintro e w8 ⟨V8, rfl, O8, k8⟩
              have b8 := Q7.blk k8 (b6.keep K7 (by simp)) (by decide)
              have d8 := Q7.blk k8 (d1.keep K7 (by simp)) (by decide)
              clear hP1 O6 Q7 B7 K7 b6 d1 K6 hst g0 g1 g2 m0 m1 m2 m3 hO hb f0 f1 f2 f3 k8
              go_wp2
              generalize wr = wo at *
              generalize hp7 : pre ++ [(qf : Int), (qt : Int), ed.prot, y0, y1, y2, y3] = p7 at *
              have hp7l : p7.length = pre.length + 7 := by rw [← hp7]; simp
              have HWE2 : Hid (pre ++ wes = p7 ++ if ed.prot = 3 then frK fn ed.offs 16 else []) := by show _ = _; rw [HWE.out, ← hp7, List.append_assoc]
              have HED := Lib.hid (fun w' hb => (HES.out w' hb).1.2.2)
              have HEF := Lib.hid (fun w' hb => (HES.out w' hb).1.1)
              have HET := Lib.hid (fun w' hb => (HES.out w' hb).1.2.1)
              have HEO := Lib.hid (fun w' hb => (HES.out w' hb).2.2)
              have HH := fun (s : Nat) (hs : s < 4294967296) q W => Lib.hid (has10_any s q W hs)
              clear HWE HES hp7
              generalize ed.prot = pr at *
              generalize ed.offs = offs at *
              go_loopw [3, 14] (fun V' vi wr => ∃ q : Nat, q ≤ 16 ∧ (pr = 3 ∨ q = 0) ∧ vi = .int .i64 (q : Int) ∧ OwnZ w wr V' (p7 ++ frK fn offs q) ∧ Blk wr wo.heap.size 70 ec.toArray ∧ Blk wr w.heap.size 26 cs) (fun _ vi _ => 16 - (intOf vi).toNat)
              case atStart => exact ⟨0, Nat.zero_le _, .inr rfl, rfl, by simpa [frK] using O8, d8, b8⟩
              case round =>
                clear O8 d8 b8
                obtain ⟨q, hq16, hpq, rfl, hO, hd, hb⟩ := hrel
                have g2 := HED.out _ hd
                have g0 := HEF.out _ hd
                have g1 := HET.out _ hd
                obtain ⟨f0, f1, f2, f3⟩ := HSF.out _ hb
                by_cases hp : pr = 3
                · subst hp
                  by_cases hlt16 : q < 16
                  · have hq1 : (q : Int) < 16 := by omega
                    have hq0 : (0 : Int) ≤ (q : Int) := by omega
                    have gz := HEO.out _ hd q hlt16
                    obtain ⟨ht, hf⟩ := HMT.out _ hO.keep
                    have hft := HFB.out q hlt16
                    have hfs := frK_succ fn offs q
                    have hA1 := HH st hst1 (q : Int) wr
                    have hA2 := HH sf hsf1 (q : Int) wr
                    have e1 : ∀ s : Nat, has10 s (q : Int) = s.testBit q := fun s => by
                      unfold has10
                      rw [decide_eq_true hq0, decide_eq_true (by omega : (q : Int) < 32), Int.toNat_natCast]; rfl
                    rw [e1] at hA1 hA2
                    rw [hft] at hfs
                    clear e1 hft
                    have hfl := frK_len fn offs q
                    generalize offs.getD q 0 = z at *
                    cases hb1 : st.testBit q
                    · have HFS : Hid (frK fn offs (q + 1) = frK fn offs q) := by show _ = _; rw [hfs, hb1]; simp
                      rw [hb1] at hA1
                      clear hb1 hfs hA2
                      go_wp2_with (go_at_call 22; refine hA1.out.mono ?_; clear hA1; rintro e w9 ⟨rfl, rfl⟩)
                      go_roundw
                      case rel => exact ⟨q + 1, by omega, .inl (by simp), by go_num, by rw [HFS.out]; exact hO, hd, hb⟩
                      case measure => simp [intOf] <;> omega
                    · rw [hb1] at hA1
                      cases hb2 : sf.testBit q
                      · have HFS : Hid (frK fn offs (q + 1) = frK fn offs q ++ [z]) := by show _ = _; rw [hfs, hb1, hb2]; simp
                        rw [hb2] at hA2
                        clear hb1 hb2 hfs
                        have hrow := hO.row
                        have hsz := hO.keep.size
                        have hl9 : (p7 ++ frK fn offs q).length = p7.length + (frK fn offs q).length := by simp
                        rw [hl9] at hrow
                        go_wp2_with (first
                          | (go_at_call 22; refine hA1.out.mono ?_; clear hA1; rintro e w9 ⟨rfl, rfl⟩)
                          | (go_at_call 22; refine hA2.out.mono ?_; clear hA2; rintro e w9 ⟨rfl, rfl⟩)
                          | (at_builtin; refine wpList_append_one rfl (.tmp 179) (.tmp 185) 28 rfl slice_u32w hrow rfl rfl (us := [u32v z]) rfl (by simp [u32v, Value.oneCell']) hsz (by omega) (by unfold maxLen; omega) ?_; intro v' w9 hown1 hgrow1 hat1))
                        have hl10 : (p7 ++ (frK fn offs q ++ [z])).length = p7.length + (frK fn offs q).length + 1 := by simp; omega
                        refine ⟨⟨q + 1, by omega, .inl (by simp), by go_num, ?_, hO.blk hgrow1 hd (by decide), hO.blk hgrow1 hb (by decide)⟩, ?_⟩
                        · rw [HFS.out]
                          refine hO.app hgrow1 ?_
                          rw [hl10, ← List.append_assoc, wordV_append]
                          exact hown1
                        · simp [intOf]
                          omega
                      · have HFS : Hid (frK fn offs (q + 1) = frK fn offs q) := by show _ = _; rw [hfs, hb1, hb2]; simp
                        rw [hb2] at hA2
                        clear hb1 hb2 hfs
                        go_wp2_with (first
                          | (go_at_call 22; refine hA1.out.mono ?_; clear hA1; rintro e w9 ⟨rfl, rfl⟩)
                          | (go_at_call 22; refine hA2.out.mono ?_; clear hA2; rintro e w9 ⟨rfl, rfl⟩))
                        go_roundw
                        case rel => exact ⟨q + 1, by omega, .inl (by simp), by go_num, by rw [HFS.out]; exact hO, hd, hb⟩
                        case measure => simp [intOf] <;> omega
                  · obtain rfl : q = 16 := by omega
                    have HO : Hid (OwnZ w wr u3 (pre ++ wes)) := by show OwnZ _ _ _ _; rw [HWE2.out, if_pos rfl]; exact hO
                    clear hO
                    go_wp2
                    go_roundw
                    case rel => exact ⟨k + 1, by omega, by go_num, by rw [hsuc.out]; simpa [← hpr, List.append_assoc] using HO.out, hb⟩
                    case measure => simp [intOf] <;> omega
                · obtain rfl : q = 0 := by rcases hpq with h | h; exact absurd h hp; exact h
                  have hpn : (pr == 3) = false := by simpa using hp
                  have HO : Hid (OwnZ w wr u3 (pre ++ wes)) := by show OwnZ _ _ _ _; rw [HWE2.out, if_neg hp]; simpa [frK] using hO
                  clear hO hp
                  go_wp2
                  go_roundw
                  case rel => exact ⟨k + 1, by omega, by go_num, by rw [hsuc.out]; simpa [← hpr, List.append_assoc] using HO.out, hb⟩
                  case measure => simp [intOf] <;> omega
            · obtain rfl : k = x.edges.length := by omega
              rw [List.take_length] at hO
              have HR := Lib.hid (show RetWs w (wordsI x) (.returned u3) wr from hO.ret)
              clear hO
              go_wp2
              go_ret
              exact HR.out
end Go.Proofs.YtfgjcjpemlgnmaaDoor
