/- ImageTells: the law's walk. -/
import Derived.Test.YtajlkfhekligeaaImgUses
import Derived.Test.YtajlkfhekligeaaImgCopies
namespace Go.Proofs.Ytajlkfhekligeaa
open Go.RowKit

section
variable {P : Program} {ops : Array Oper} {rest : List Oper} {o : Oper} {a : Act} {Q : Exit → Act → World → Prop} {wr : World} {e : TypeId}
/-- 'out = append(out, x, y, ..)': out is the call's own. -/
theorem wpList_app_lit {us : List Value} (m : Nat)
    (hgd : o.guard = none) (s x : Operand) (t : TypeId) (ho : o.op = .call { callee := .builtin .append, args := #[s, x], argTypes := #[t, t] })
    {size bytes : Nat} (hS : SliceOf P t e size bytes) {B : Nat} {v : Value} {n : Nat} {xs : List Value} (hown : wr.ownsRow B e size v n xs) (hs : a.eval s = v) (hx : a.eval x = .slice (some ⟨wr.heap.size, 0, none⟩) m m)
    (hl : us.length = m * size) (h1 : ∀ u ∈ us, u.oneCell' = true) (hB : B ≤ wr.heap.size) (hb : (n + m) * bytes ≤ 140737488355328) (h63 : n + m ≤ maxLen)
    (h : ∀ v' w', w'.ownsRow B e size v' (n + m) (xs ++ us) → Keep v.ownBlock.toList wr w' → (v'.ownBlock = v.ownBlock ∨ v'.ownBlock = some (wr.heap.size + 1)) → wpList P ops Q rest (a.put o.dst v') w') :
    wpList P ops Q (o :: rest) a (wr.alloc (.cells us.toArray e)) := by
  obtain ⟨ht, ⟨i, z, hi, hz, hsz, hby, hzs⟩, hpos⟩ := hS.parts
  obtain ⟨v', w', hr, h2, h3, _, h5⟩ := run_append_own_at (P := P) (wr.alloc (.cells us.toArray e)) B t o.type e i z size bytes ht hi hz hsz hby hzs hpos v n xs (hown.alloc _) ⟨wr.heap.size, 0, none⟩ m m us hl
    (by
      intro j u hu
      rw [add_of_block]
      show World.cell? _ _ = _
      simp only [World.cell?, heap_alloc_new]
      simpa using hu) h1 h63 hb (by simp; omega)
  refine wpList_plain hgd fun K hK => ?_
  unfold Oper.wp execOp
  simp only [ho, resolve, invoke, builtin, Sem.run_bind, Sem.run_pure, Result.andThen_ok, List.map_toArray, List.map_cons, List.map_nil, hs, hx, hr]
  refine hK _ _ (h v' w' h2 ?_ (by simpa using h5))
  have hk := Keep.of_grown h3
  exact ((Keep.refl _ wr).alloc _).trans hk (fun x hx _ => hx)
end

/-- The least edge from place r on. -/
def edgeFrom (es : List Edg) (f t : Int) (r : Nat) : Option Nat := firstBad (edgeIs f t) r (es.drop r)
theorem edgeFrom_step (es : List Edg) (f t : Int) (r : Nat) (hr : r < es.length) : edgeFrom es f t r = if edgeIs f t r es[r] then edgeFrom es f t (r + 1) else some r := by
  unfold edgeFrom
  rw [List.drop_eq_getElem_cons hr, firstBad]
theorem edgeFrom_zero (es : List Edg) (f t : Int) : edgeFrom es f t 0 = edgeAt es f t := by unfold edgeFrom edgeAt; rw [List.drop_zero]
theorem edgeFrom_end (es : List Edg) (f t : Int) : edgeFrom es f t es.length = none := by unfold edgeFrom; rw [List.drop_length]; rfl
def edgeI (r : Option Nat) : Int := match r with | some i => (i : Int) | none => 0
theorem edgeRes_eq (r : Option Nat) : edgeRes r = .tuple #[.int .i64 (edgeI r), .bool r.isSome] := by cases r <;> rfl

set_option maxRecDepth 100000 in
set_option maxHeartbeats 4000000 in
theorem imageTells_any (v : ImgV) (x : Img) (f t : Int) (w : World) (h : ImgAt w v x) :
    Calls Try.prog 5 #[.agg (imgCells v x).toArray, .int .i64 f, .int .i64 t] w fun e w' => e = .returned (.bool true) ∧ Keep [] w w' := by
  have hb := img_box w v x
  have K0 := (Keep.refl [] w).alloc (.cells (imgCells v x).toArray 26)
  obtain ⟨W0, hW0⟩ : ∃ W0, w.alloc (.cells (imgCells v x).toArray 26) = W0 := ⟨_, rfl⟩
  rw [hW0] at hb K0
  have HG := Lib.hid (great_any v x W0 (h.keep0 K0))
  have HIL : Hid ((imgCells v x).length = 4) := show _ = _ from rfl
  have hcx : Hid (∀ W, Keep [] W0 W → CellsAt W w.heap.size 0 (imgCells v x)) := fun W hk => (hb.keep0 hk).cellsAt
  cases hgx : greatImg x
  case true =>
    have HGX := Lib.hid hgx
    clear hgx h hb
    generalize imgCells v x = il at *
    go_enter Try.func5, Try.ntmps5
    go_wp2_with (refine wpList_load_agg rfl 26 (.tmp 3) rfl rfl (cs := il) (by rw [HIL.out]; exact agg_image) (hcx.out _ (Keep.refl _ _)) ?_)
    refine HG.out.mono ?_
    rintro e w1 ⟨rfl, k1⟩
    rw [HGX.out]
    have K1 := Lib.hid (K0.then k1)
    clear k1
    go_wp2
    go_ret
    exact ⟨rfl, K1.out⟩
  obtain ⟨g1, g2, g3, g4⟩ := great_false hgx
  have HGX := Lib.hid hgx
  have hF : Hid (∀ W, Keep [] W0 W → W.cell? ⟨w.heap.size, 1, none⟩ = some (.slice v.ta x.tasks.length v.tc) ∧ W.cell? ⟨w.heap.size, 2, none⟩ = some (.slice v.ma x.modes.length v.mc) ∧ W.cell? ⟨w.heap.size, 3, none⟩ = some (.slice v.ea x.edges.length v.ec)) := fun W hk =>
    ⟨img_c1 (hb.keep0 hk), img_c2 (hb.keep0 hk), img_c3 (hb.keep0 hk)⟩
  have hsz : w.heap.size < W0.heap.size := hb.lt
  have htk := Lib.hid h.task
  have hmd := Lib.hid h.mode
  have hed := Lib.hid h.edge
  have hok := Lib.hid h.ok
  have HTs := fun W hk => Lib.hid (tasks_any v x f W (h.keep0 hk))
  have HEd := fun W hk => Lib.hid (edge_any v x f t W (h.keep0 hk))
  have HAl := fun W => Lib.hid (all_any v x W h.lt)
  rw [edgeRes_eq] at HEd
  clear hgx g4 h hb
  generalize imgCells v x = il at *
  go_enter Try.func5, Try.ntmps5
  go_wp2_with (refine wpList_load_agg rfl 26 (.tmp 3) rfl rfl (cs := il) (by rw [HIL.out]; exact agg_image) (hcx.out _ (Keep.refl _ _)) ?_)
  refine HG.out.mono ?_
  rintro e w1 ⟨rfl, k1⟩
  rw [HGX.out]
  have hk1 := Lib.hid k1
  clear k1 hW0 HG HGX
  obtain ⟨c1, c2, c3⟩ := hF.out _ hk1.out
  go_wp2
  go_loopw [7, 8] (fun s i wr => ∃ k : Nat, k ≤ min x.tasks.length 32 ∧ i = .int .i64 k ∧ s = .int .u32 (allSet k : Int) ∧ Keep [] W0 wr) (fun _ i _ => 40 - (intOf i).toNat)
  case atStart => exact ⟨0, Nat.zero_le _, rfl, rfl, hk1.out⟩
  case round =>
    clear c1 c2 c3
    obtain ⟨k, hk, rfl, rfl, hkr⟩ := hrel
    have HKR := Lib.hid hkr
    clear hkr
    obtain ⟨c1, c2, c3⟩ := hF.out _ HKR.out
    by_cases hlk : k < x.tasks.length ∧ k < 32
    · obtain ⟨hl1, hl2⟩ := hlk
      have hadd := Lib.hid (allSet_add k hl2)
      obtain ⟨bt, ot, hTA, hbt, hts⟩ := htk.out (by omega)
      have hlon : x.tasks[k].lon.length = 8 := hok.out.lon _ (List.getElem_mem hl1)
      have hrow := Lib.hid (hts k hl1)
      have HU := fun W => Lib.hid (usesHelp_any x.tasks[k] W hlon)
      have HL : Hid ((tskCells x.tasks[k]).length = 11) := show _ = _ from tskCells_len hlon
      have hlonA : Hid (∀ W, Keep [] w W → ∀ r, r < 8 → W.cell? ⟨bt, ot + k * 11 + 3 + r, none⟩ = some (.int .i64 (x.tasks[k].lon.getD r 0))) := fun W hw r hr => by
        have e1 := (hw.cell (p := ⟨bt, ot + k * 11 + (3 + r), none⟩) hbt (by simp)).trans (hrow.out (3 + r) _ (tsk_lon x.tasks[k] r (by omega)))
        rw [← Nat.add_assoc] at e1
        rw [e1, List.getD_eq_getElem?_getD, List.getElem?_eq_getElem (by omega)]; rfl
      clear hts hlon
      generalize x.tasks[k] = tk at *
      rw [hTA] at c1
      clear c2 c3
      have k32 : (k : Int) < 32 := by omega
      obtain ⟨wo, hwo⟩ : ∃ wo : World, wo = wr := ⟨_, rfl⟩
      subst hwo
      go_wp2
      rw [hadd.out]
      go_loopw [9, 10] (fun s i wr => ∃ r : Nat, r ≤ 8 ∧ i = .int .i64 r ∧ wr.ownsRow wo.heap.size 3 1 s (2 * (usesK tk.lon r).length) (iv (flatP (usesK tk.lon r))) ∧ Keep [] wo wr) (fun _ i _ => 8 - (intOf i).toNat)
      case atStart => exact ⟨0, Nat.zero_le _, rfl, World.ownsRow_nil _ _ _ _, Keep.refl _ _⟩
      case round =>
        clear c1
        obtain ⟨r, hr, rfl, hown, hkx⟩ := hrel
        have HKX := Lib.hid (HKR.out.then hkx)
        obtain ⟨c1, c2, c3⟩ := hF.out _ HKX.out
        rw [hTA] at c1
        clear c2 c3
        by_cases hlr : r < 8
        · have hcl := hlonA.out _ (K0.then HKX.out) r hlr
          have hul := usesK_le tk.lon r
          have k0 : (0 : Int) ≤ (r : Int) := by omega
          by_cases hc : 0 < tk.lon.getD r 0
          · have hS : Hid (usesK tk.lon (r + 1) = usesK tk.lon r ++ [((r : Int), tk.lon.getD r 0)]) := by show _ = _; rw [usesK, if_pos hc]
            generalize tk.lon.getD r 0 = z at *
            have hsw := hkx.size
            go_wp2_with (refine stop_at 61 rfl ?_)
            constructor
            refine wpList_app_lit 2 rfl (.tmp 50) (.tmp 60) 52 rfl slice_intI hown rfl rfl (us := [.int .i64 (r : Int), .int .i64 z]) rfl (by simp [Value.oneCell']) hsw (by omega) (by unfold maxLen; omega) ?_
            intro v' w4 o4 k4 _
            have o5 : Hid (w4.ownsRow wo.heap.size 3 1 v' (2 * (usesK tk.lon (r + 1)).length) (iv (flatP (usesK tk.lon (r + 1))))) := by
              show World.ownsRow _ _ _ _ _ _ _
              rw [hS.out, flatP_snoc, List.length_append, show 2 * ((usesK tk.lon r).length + [((r : Int), z)].length) = 2 * (usesK tk.lon r).length + 2 by simp; omega]
              simpa [iv] using o4
            have k5 : Hid (Keep [] wo w4) := hkx.trans k4 (fun g hg hlt => by
              have := hown.lt g (by simpa using hg)
              omega)
            clear o4 k4 hown
            go_wp2
            go_roundw
            case rel => exact ⟨r + 1, by omega, by go_num, o5.out, k5.out⟩
            case measure => simp [intOf] <;> omega
          · have hS : Hid (usesK tk.lon (r + 1) = usesK tk.lon r) := by show _ = _; rw [usesK, if_neg hc, List.append_nil]
            have hz : tk.lon.getD r 0 ≤ 0 := by omega
            have HO := Lib.hid hown
            clear hown
            generalize tk.lon.getD r 0 = z at *
            clear hc
            go_wp2
            go_roundw
            case rel => exact ⟨r + 1, by omega, by go_num, by rw [hS.out]; exact HO.out, hkx⟩
            case measure => simp [intOf] <;> omega
        · obtain rfl : r = 8 := by omega
          have HO := Lib.hid hown
          have hrA : Hid (CellsAt wr bt (ot + k * 11) (tskCells tk)) := hrow.out.keep0 (K0.then HKX.out) hbt
          have hul := usesK_le tk.lon 8
          have HFL := Lib.hid (flatP_len (usesK tk.lon 8))
          obtain ⟨A9, c9, rfl⟩ := own_shape hown
          clear hown hlonA hrow
          generalize tskCells tk = tc at *
          go_wp2_with (refine wpList_load_agg rfl 38 (.tmp 65) rfl rfl (cs := tc) (by rw [HL.out]; exact agg_task) hrA.out ?_)
          refine (HU _).out.mono ?_
          rintro e w5 ⟨A11, c11, rfl, o11, k5⟩
          have o9 := own_keep0 HO.out k5
          rw [HFL.out] at o11
          rw [HFL.out]
          have r9 := Lib.hid (Reads.of_own o9)
          have r11 := Lib.hid (Reads.of_own o11)
          have K5 := Lib.hid (HKX.out.then k5)
          clear o9 o11 k5 HO c1
          have HPL : Hid ((flatP (usesK tk.lon 8)).length = 2 * (usesK tk.lon 8).length) := HFL.out
          generalize flatP (usesK tk.lon 8) = fl at *
          generalize hm2 : 2 * (usesK tk.lon 8).length = m2 at *
          have hm16 : m2 ≤ 16 := by omega
          clear hm2 hul
          have hq2 : ((m2 : Int) != (m2 : Int)) = false := by simp
          have hq3 : (m2 != m2) = false := by simp
          go_wp2
          clear hq2 hq3
          go_loopw [12] (fun i wr => ∃ q : Nat, q ≤ m2 ∧ i = .int .i64 q ∧ Keep [] w5 wr) (fun i _ => m2 - (intOf i).toNat)
          case atStart => exact ⟨0, Nat.zero_le _, rfl, Keep.refl _ _⟩
          case round =>
            obtain ⟨q, hq, rfl, hkq⟩ := hrel
            by_cases hlq : q < m2
            · obtain ⟨b1, o1, e1, hb1, hc1⟩ := r11.out.addr (by omega)
              obtain ⟨b2, o2, e2, hb2, hc2⟩ := r9.out.addr (by omega)
              have hz1 := hc1 q _ (iv_get (by rw [HPL.out]; exact hlq))
              have hz2 := hc2 q _ (iv_get (by rw [HPL.out]; exact hlq))
              generalize fl[q]'_ = z at *
              have hFq : ∀ w', Keep [] wr w' → w'.cell? ⟨b1, o1 + q, none⟩ = some (.int .i64 z) ∧ w'.cell? ⟨b2, o2 + q, none⟩ = some (.int .i64 z) := fun w' hw =>
                ⟨((hkq.then hw).cell (p := ⟨b1, o1 + q, none⟩) hb1 (by simp)).trans hz1, ((hkq.then hw).cell (p := ⟨b2, o2 + q, none⟩) hb2 (by simp)).trans hz2⟩
              have hzz : (z != z) = false := by simp
              have q0 : (0 : Int) ≤ (q : Int) := by omega
              have q1 : (q : Int) < (m2 : Int) := by omega
              have HK := Lib.hid hkq
              clear hc1 hc2 hz1 hz2 hkq
              subst e1
              subst e2
              go_wp2
              refine wp_region_flow (Keep [] wr) rfl (by kernel_rfl) (Keep.refl _ _).drew ?_
              repeat (refine fl_val (v := ?_) (by rfl) ?_ ?_; rotate_left; (intro w' hS; obtain ⟨f1,f2⟩ := hFq w' hS; go_simp; with_reducible rfl); simp only [Act.put, List.setIfInBounds_toArray, List.set_cons_zero, List.set_cons_succ])
              refine fl_nil ?_
              intro w6 hS
              have HK6 := Lib.hid (HK.out.then hS)
              clear hS
              go_wp2
              go_roundw
              case rel => exact ⟨q + 1, by omega, by go_num, HK6.out⟩
              case measure => simp [intOf] <;> omega
            · have HKE := Lib.hid (K5.out.then hkq)
              clear hkq
              go_wp2
              go_roundw
              case rel => exact ⟨k + 1, by omega, by go_num, rfl, HKE.out⟩
              case measure => simp [intOf] <;> omega
    · have hke : k = min x.tasks.length 32 := by omega
      have HAK : Hid (allSet k = allSet (min x.tasks.length 32)) := by show _ = _; rw [hke]
      have hcase : (x.tasks.length ≤ k) ∨ (k < x.tasks.length ∧ 32 ≤ k) := by omega
      obtain ⟨ak, hak⟩ : ∃ ak, ak = allSet k := ⟨_, rfl⟩
      have HAK2 : Hid (allSet (min x.tasks.length 32) = ak) := by show _ = _; rw [hak, ← HAK.out]
      rw [← hak]
      clear hak HAK hke
      have hmin : min x.tasks.length 32 ≤ 32 := Nat.min_le_right _ _
      obtain ⟨wz, hwz⟩ : ∃ wz : World, wz = wr := ⟨_, rfl⟩
      subst hwz
      have e0 : Hid (edgeFrom x.edges f t ((x.edges.length : Int) - 1 + 1).toNat = none) := by show _ = _; rw [show ((x.edges.length : Int) - 1 + 1).toNat = x.edges.length by omega]; exact edgeFrom_end _ _ _
      rcases hcase with g | ⟨g, g'⟩
      all_goals
        go_wp2
        go_loopw [13, 14, 15] (fun a b i wr => ∃ z : Int, -1 ≤ z ∧ z < x.edges.length ∧ i = .int .i64 z ∧ a = .int .i64 (edgeI (edgeFrom x.edges f t (z + 1).toNat)) ∧ b = .bool (edgeFrom x.edges f t (z + 1).toNat).isSome ∧ wz = wr) (fun _ _ i _ => (intOf i + 1).toNat)
        case atStart => exact ⟨_, by omega, by omega, rfl, by rw [e0.out]; rfl, by rw [e0.out]; rfl, rfl⟩
        case round =>
          obtain ⟨z, hz1, hz2, rfl, rfl, rfl, rfl⟩ := hrel
          by_cases hzp : 0 ≤ z
          · obtain ⟨j, rfl⟩ : ∃ j : Nat, z = (j : Int) := ⟨z.toNat, by omega⟩
            have hj : j < x.edges.length := by omega
            obtain ⟨be, oe, hEA, hbe, hes⟩ := hed.out (by omega)
            have e0 := edg_c x.edges[j] 0 (by simp [edgInts])
            have e1 := edg_c x.edges[j] 1 (by simp [edgInts])
            simp only [edgInts, List.getElem_cons_zero, List.getElem_cons_succ] at e0 e1
            have hr := (hes j hj).keep0 (K0.then HKR.out) hbe
            have q0 := hr 0 _ e0
            have q1 := hr 1 _ e1
            simp only [Nat.add_zero] at q0
            have hst := edgeFrom_step x.edges f t j hj
            rw [show ((j : Int) + 1).toNat = j + 1 by omega]
            have hsj : Hid (((j : Int) - 1 + 1).toNat = j) := by show _ = _; omega
            have hid : Hid (edgeIs f t j x.edges[j] = !(x.edges[j].frm == f && x.edges[j].to == t)) := rfl
            have HST := Lib.hid hst
            clear hes hr e0 e1 hst
            rw [hEA] at c3
            generalize x.edges[j] = ej at *
            generalize ej.frm = fj at *
            generalize ej.to = tj at *
            have hcs : ((fj == f) = false ∧ edgeIs f t j ej = true) ∨ ((fj == f) = true ∧ (tj == t) = false ∧ edgeIs f t j ej = true) ∨ ((fj == f) = true ∧ (tj == t) = true ∧ edgeIs f t j ej = false) := by
              rw [hid.out]
              cases (fj == f) <;> cases (tj == t) <;> simp
            rcases hcs with ⟨h1, hi⟩ | ⟨h1, h2, hi⟩ | ⟨h1, h2, hi⟩
            · have HS : Hid (edgeFrom x.edges f t j = edgeFrom x.edges f t (j + 1)) := by show _ = _; rw [HST.out, if_pos hi]
              clear hi
              go_wp2
              go_roundw
              case rel => exact ⟨(j : Int) - 1, by omega, by omega, rfl, by rw [hsj.out, HS.out], by rw [hsj.out, HS.out], by trivial⟩
              case measure => simp [intOf] <;> omega
            · have HS : Hid (edgeFrom x.edges f t j = edgeFrom x.edges f t (j + 1)) := by show _ = _; rw [HST.out, if_pos hi]
              clear hi
              go_wp2
              go_roundw
              case rel => exact ⟨(j : Int) - 1, by omega, by omega, rfl, by rw [hsj.out, HS.out], by rw [hsj.out, HS.out], by trivial⟩
              case measure => simp [intOf] <;> omega
            · have HS : Hid (edgeFrom x.edges f t j = some j) := by show _ = _; rw [HST.out, if_neg (by rw [hi]; simp)]
              clear hi
              go_wp2
              go_roundw
              case rel => exact ⟨(j : Int) - 1, by omega, by omega, rfl, by rw [hsj.out, HS.out]; rfl, by rw [hsj.out, HS.out]; rfl, by trivial⟩
              case measure => simp [intOf] <;> omega
          · obtain rfl : z = -1 := by omega
            have HEF : Hid (edgeFrom x.edges f t ((-1 : Int) + 1).toNat = edgeAt x.edges f t) := edgeFrom_zero _ _ _
            rw [HEF.out]
            clear HEF e0
            have hff : f < 0 ∨ (0 ≤ f ∧ (x.modes.length : Int) ≤ f) ∨ (0 ≤ f ∧ f < x.modes.length) := by omega
            have haa : ((ak : Int) == (ak : Int)) = true := by simp
            have hab : (ak == ak) = true := by simp
            generalize edgeAt x.edges f t = er at *
            generalize edgeI er = ei at *
            generalize er.isSome = eb at *
            have hee : (ei == ei) = true := by simp
            have hbb : (eb == eb) = true := by simp
            rcases hff with h1 | ⟨h1, h2⟩ | ⟨h1, h2⟩
            · have HS : Hid (setOf10 x f = 0) := by show _ = _; unfold setOf10; rw [if_neg (by omega)]
              go_wp2_with (refine wpList_agg_g rfl 26 (.tmp 3) rfl rfl (cs := il) (by rw [HIL.out]; exact agg_image) (hcx.out _ HKR.out) ?_)
              refine (HEd _ (K0.then HKR.out)).out.mono ?_
              rintro e w6 ⟨rfl, k6⟩
              have K6 := Lib.hid (HKR.out.then k6)
              clear k6 c1 c2 c3
              go_wp2_with (refine wpList_agg_g rfl 26 (.tmp 3) rfl rfl (cs := il) (by rw [HIL.out]; exact agg_image) (hcx.out _ K6.out) ?_)
              refine (HAl _).out.mono ?_
              rintro e w7 ⟨rfl, k7⟩
              rw [HAK2.out]
              have K7 := Lib.hid (K6.out.then k7)
              clear k7
              go_wp2_with (refine wpList_agg_g rfl 26 (.tmp 3) rfl rfl (cs := il) (by rw [HIL.out]; exact agg_image) (hcx.out _ K7.out) ?_)
              refine (HTs _ (K0.then K7.out)).out.mono ?_
              rintro e w8 ⟨rfl, k8⟩
              rw [HS.out]
              have K8 := Lib.hid (K7.out.then k8)
              clear k8
              go_wp2_with fail
              refine (alive10 _).mono ?_
              rintro e w9 ⟨rfl, k9⟩
              have K9 := Lib.hid (K0.then (K8.out.then k9))
              clear k9
              go_wp2
              go_ret
              exact ⟨rfl, K9.out⟩
            · have HS : Hid (setOf10 x f = 0) := by show _ = _; unfold setOf10; rw [if_neg (by omega)]
              go_wp2_with (refine wpList_agg_g rfl 26 (.tmp 3) rfl rfl (cs := il) (by rw [HIL.out]; exact agg_image) (hcx.out _ HKR.out) ?_)
              refine (HEd _ (K0.then HKR.out)).out.mono ?_
              rintro e w6 ⟨rfl, k6⟩
              have K6 := Lib.hid (HKR.out.then k6)
              clear k6 c1 c2 c3
              go_wp2_with (refine wpList_agg_g rfl 26 (.tmp 3) rfl rfl (cs := il) (by rw [HIL.out]; exact agg_image) (hcx.out _ K6.out) ?_)
              refine (HAl _).out.mono ?_
              rintro e w7 ⟨rfl, k7⟩
              rw [HAK2.out]
              have K7 := Lib.hid (K6.out.then k7)
              clear k7
              go_wp2_with (refine wpList_agg_g rfl 26 (.tmp 3) rfl rfl (cs := il) (by rw [HIL.out]; exact agg_image) (hcx.out _ K7.out) ?_)
              refine (HTs _ (K0.then K7.out)).out.mono ?_
              rintro e w8 ⟨rfl, k8⟩
              rw [HS.out]
              have K8 := Lib.hid (K7.out.then k8)
              clear k8
              go_wp2_with fail
              refine (alive10 _).mono ?_
              rintro e w9 ⟨rfl, k9⟩
              have K9 := Lib.hid (K0.then (K8.out.then k9))
              clear k9
              go_wp2
              go_ret
              exact ⟨rfl, K9.out⟩
            · obtain ⟨m, rfl⟩ : ∃ m : Nat, f = (m : Int) := ⟨f.toNat, by omega⟩
              have hm : m < x.modes.length := by omega
              obtain ⟨bm, om, hMA, hbm, hms⟩ := hmd.out (by omega)
              obtain ⟨Aq, cq, hmc, _⟩ := hms m hm
              have q0 := (hmc.keep0 (K0.then HKR.out) hbm) 0 _ rfl
              simp only [Nat.add_zero] at q0
              rw [hMA] at c2
              have HS : Hid (setOf10 x m = x.modes[m].set) := by
                show _ = _; unfold setOf10
                rw [if_pos (by omega), Int.toNat_natCast, List.getD_eq_getElem?_getD, List.getElem?_eq_getElem hm]; rfl
              clear hms hmc
              generalize x.modes[m].set = sm at *
              have hss : ((sm : Int) == (sm : Int)) = true := by simp
              have hst : (sm == sm) = true := by simp
              go_wp2_with (refine wpList_agg_g rfl 26 (.tmp 3) rfl rfl (cs := il) (by rw [HIL.out]; exact agg_image) (hcx.out _ HKR.out) ?_)
              refine (HEd _ (K0.then HKR.out)).out.mono ?_
              rintro e w6 ⟨rfl, k6⟩
              have K6 := Lib.hid (HKR.out.then k6)
              clear k6 c1 c2 c3
              go_wp2_with (refine wpList_agg_g rfl 26 (.tmp 3) rfl rfl (cs := il) (by rw [HIL.out]; exact agg_image) (hcx.out _ K6.out) ?_)
              refine (HAl _).out.mono ?_
              rintro e w7 ⟨rfl, k7⟩
              rw [HAK2.out]
              have K7 := Lib.hid (K6.out.then k7)
              clear k7
              go_wp2_with (refine wpList_agg_g rfl 26 (.tmp 3) rfl rfl (cs := il) (by rw [HIL.out]; exact agg_image) (hcx.out _ K7.out) ?_)
              refine (HTs _ (K0.then K7.out)).out.mono ?_
              rintro e w8 ⟨rfl, k8⟩
              rw [HS.out]
              have K8 := Lib.hid (K7.out.then k8)
              clear k8
              go_wp2_with fail
              refine (alive10 _).mono ?_
              rintro e w9 ⟨rfl, k9⟩
              have K9 := Lib.hid (K0.then (K8.out.then k9))
              clear k9
              go_wp2
              go_ret
              exact ⟨rfl, K9.out⟩
end Go.Proofs.Ytajlkfhekligeaa
