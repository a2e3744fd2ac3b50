/- What the law of changes asks for: are both told the same, are both engines the same; how many ticks a call is; walked. Condition: both tell the same. The law's engines of an image (Engine); walked. Condition: the table of math/bits lies where the program's text lays it. The chapter's example of a change (alive); how many ticks a call is; walked. Condition: the table of math/bits lies where the program's text lays it. A law's row of calls of a change as an argument; what holds in the law's loop. No condition. -/
import Derived.Test.YteflgdnekflbbaaDoorDcI
import Derived.Test.YteflgdnekflbbaaDoorEngT
import Derived.Test.YteflgdnekflbbaaDoorEngN
import Derived.Test.YteflgdnekflbbaaDoorCertEx
import Derived.Test.YteflgdnekflbbaaDoorImgOpen
namespace Go.Proofs.YteflgdnekflbbaaDoor
open Go.RowKit
attribute [local go_sem] Oper.semAt_some
set_option maxRecDepth 100000 in
set_option maxHeartbeats 1000000 in
theorem eql_news (a b c : Bool) (x y z : Int) (W : World) :
    (binOp .neq 63 (.agg #[.bool a, .bool b, .bool c, .int .i64 x, .int .i64 y, .int .i64 z]) (.agg #[.bool a, .bool b, .bool c, .int .i64 x, .int .i64 y, .int .i64 z])).run Tryd.prog W = .ok (.bool false) W := by
  have hq : ∃ i, Tryd.prog.info? 3 = some i ∧ i.size = 1 := by
    have h : (Tryd.prog.info? 3).map (·.size) = some 1 := by kernel_rfl
    exact Option.map_eq_some_iff.1 h
  obtain ⟨i, hi, h1⟩ := hq
  have hq2 : ∃ i, Tryd.prog.info? 4 = some i ∧ i.size = 1 := by
    have h : (Tryd.prog.info? 4).map (·.size) = some 1 := by kernel_rfl
    exact Option.map_eq_some_iff.1 h
  obtain ⟨i2, hi2, h2⟩ := hq2
  have hagg : ∀ W, (isAgg 3).run Tryd.prog W = .ok false W := by
    intro W
    unfold isAgg
    rw [Sem.run_bind, run_underlying Tryd.underlying3 W]
    rfl
  have hagg2 : ∀ W, (isAgg 4).run Tryd.prog W = .ok false W := by
    intro W
    unfold isAgg
    rw [Sem.run_bind, run_underlying Tryd.underlying4 W]
    rfl
  have e1 : ∀ (d : Nat) (n : Int) W, (Op.equalIn (d + 1) 3 (.int .i64 n) (.int .i64 n)).run Tryd.prog W = .ok true W := by
    intro d n W
    simp [Op.equalIn, run_underlying Tryd.underlying3]
  have e2 : ∀ (d : Nat) (n : Bool) W, (Op.equalIn (d + 1) 4 (.bool n) (.bool n)).run Tryd.prog W = .ok true W := by
    intro d n W
    simp [Op.equalIn, run_underlying Tryd.underlying4]
  have h : ∀ d : Nat, (Op.equalIn (d + 2) 63 (.agg #[.bool a, .bool b, .bool c, .int .i64 x, .int .i64 y, .int .i64 z]) (.agg #[.bool a, .bool b, .bool c, .int .i64 x, .int .i64 y, .int .i64 z])).run Tryd.prog W = .ok true W := by
    intro d
    unfold Op.equalIn
    simp [run_underlying Tryd.underlying63, part, hagg, hagg2, e1, e2, Sem.run_bind]
  simp only [binOp]
  simp [Op.equal, Op.maxDepth, h 9998]
theorem guard_news (x y : Operand) (u v : Array Value) (W : World) : (eqGuard .neq 63 x y (.agg u) (.agg v)).run Tryd.prog W = .ok () W := by
  have h : Tryd.prog.eqGuardType Tryd.prog.depth 63 = false := by kernel_rfl
  simp [eqGuard, Sem.run_bind, h]
set_option maxRecDepth 100000 in
theorem build_nw (a b c : Bool) (e m t : Int) (w : World) : (Instr.build 63 #[(0, .bool a), (1, .bool b), (2, .bool c), (3, .int .i64 e), (4, .int .i64 m), (5, .int .i64 t)]).run Tryd.prog w = .ok (.agg #[.bool a, .bool b, .bool c, .int .i64 e, .int .i64 m, .int .i64 t]) w := by kernel_rfl
theorem DcX.keep0 {w w' : World} {V : DcV} {X : ChX} (h : DcX w V X) (k : Keep [] w w') : DcX w' V X :=
  ⟨fun w2 k2 => h.img w2 (k.then k2), fun w2 k2 => h.lat w2 (k.then k2), fun w2 k2 => h.stl w2 (k.then k2), h.ll, h.sl⟩
section
variable {w : World} {b : Nat} {v : ImgV} {V : DcV} {X : ChX} {vc : CrtV} {c : Crt} {s : EnS} {d : DcS} {bs : List Nat}
end
end Go.Proofs.YteflgdnekflbbaaDoor

namespace Go.Proofs.YteflgdnekflbbaaDoor
open Go.RowKit
attribute [local go_sem] Oper.semAt_some

/-- Two results, the second one in cells. -/
theorem results_tmp_blk {P : Program} {w : World} {fn : Func} {p q : Tmp} {ty : TypeId} (h : fn.results = #[.tmp q, .cell p ty]) (tmps : Array Value) {g t : Nat} {vs : List Value} {v : Value} (hp : tmps.getD p undef = .pointer (some ⟨g, 0, none⟩)) (hq : tmps.getD q undef = v)
    (hb : Blk w g t vs.toArray) (hA : AggOf P ty vs.length) : (results fn tmps).run P w = .ok (.tuple #[v, .agg vs.toArray]) w := by
  have hp' : tmps[p]?.getD undef = .pointer (some ⟨g, 0, none⟩) := by simpa using hp
  have hq' : tmps[q]?.getD undef = v := by simpa using hq
  have hc : CellsAt w g 0 vs := fun j u hu => by rw [Nat.zero_add, hb.cell]; simpa using hu
  simp [results, h, hp', hq', asAddr, run_loadVar_agg hA hc]
set_option maxRecDepth 100000 in
theorem build_zE (w : World) : (Instr.build 31 #[]).run Tryd.prog w = .ok (.agg zE30.toArray) w := by kernel_rfl
theorem zE30_one : ∀ u ∈ zE30, u.oneCell' = true := fun u hu => by
  simp only [zE30, List.mem_cons, List.not_mem_nil, or_false] at hu
  rcases hu with rfl | rfl | rfl | rfl | rfl | rfl | rfl | rfl | rfl | rfl | rfl | rfl | rfl <;> rfl
/-- Two rows as they grow. -/
structure LpAt (wl wr : World) (X : ChX) (k : Nat) (LA SA : Option Addr) (pa pb : Nat) : Prop where
  oa : wr.ownsRow wl.heap.size 3 1 (.slice LA k pa) k (natI (X.lat.take k))
  ob : wr.ownsRow wl.heap.size 3 1 (.slice SA k pb) k (natI (X.stl.take k))
  ap : ∀ y, (Value.slice LA k pa).ownBlock = some y → (Value.slice SA k pb).ownBlock ≠ some y
  kp : Keep [] wl wr
theorem own_ap {vA vB : Value} {a0 b0 : Option Nat} {N zA zB : Nat} (hA : vA.ownBlock = a0 ∨ vA.ownBlock = some zA) (hB : vB.ownBlock = b0 ∨ vB.ownBlock = some zB) (hap : ∀ y, a0 = some y → b0 ≠ some y) (ha : ∀ y, a0 = some y → y < N) (hb : ∀ y, b0 = some y → y < N) (hz : N ≤ zA) (hz2 : N ≤ zB) (hlt : ∀ y, vA.ownBlock = some y → y < zB) : ∀ y, vA.ownBlock = some y → vB.ownBlock ≠ some y := fun y hy hc => by
  rcases hB with e | e
  · rw [e] at hc
    rcases hA with e2 | e2
    · rw [e2] at hy; exact hap y hy hc
    · rw [e2] at hy; cases hy; have := hb _ hc; omega
  · rw [e] at hc; cases hc
    have := hlt _ hy; omega
theorem natI_snoc {l : List Nat} {k : Nat} (hk : k < l.length) : natI (l.take (k + 1)) = natI (l.take k) ++ [.int .i64 (l.getD k 0 : Int)] := by
  unfold natI
  rw [List.take_succ_eq_append_getElem hk, List.map_append, List.getD_eq_getElem?_getD, List.getElem?_eq_getElem hk]
  rfl
/-- What the law's Engine hands back where the image is admitted. -/
def RetEng (w : World) (v : ImgV) (X : ChX) (c : Crt) (e : Ending) (w' : World) : Prop :=
  ∃ b v' vc V, e = .returned (.tuple #[.pointer (some ⟨b, 0, none⟩), .agg (dcL V X newDc).toArray]) ∧ w.heap.size ≤ b ∧ EngAt w' b v' X.x vc c newS [] ∧ V.v = v ∧ w'.ownsRow w.heap.size 3 1 (.slice V.la X.lat.length V.lc) X.lat.length (natI X.lat) ∧ w'.ownsRow w.heap.size 3 1 (.slice V.sa X.stl.length V.sc) X.stl.length (natI X.stl) ∧ Keep [] w w'
theorem chM_of {x : Img} (ho : x.Ok) (ha : (admM x).2.2 = 0) : admM x = (fullCrt x, 0, 0) ∧ ChM (chX x) (fullCrt x) := by
  obtain ⟨hc, _, he⟩ := adm_ok ha
  have hed : ∀ k, k < x.edges.length → (edgeM x k).2 = true := by
    cases hm : firstNot (modeFit x) x.modes.length with
    | some i => rw [admM_mode hc hm] at ha; exact absurd ha (show ¬ (180 : Int) = 0 by decide)
    | none =>
      cases hf : firstNot (fun i => (edgeM x i).2) x.edges.length with
      | some i => rw [admM_edge hc hm hf] at ha; exact absurd ha (show ¬ (190 : Int) = 0 by decide)
      | none => exact firstNot_of_none hf
  refine ⟨he, chG_of hc ho hed, by unfold fullCrt chX; simp, fun k hk => ?_⟩
  have hk2 : k < x.edges.length := by unfold fullCrt at hk; simpa using hk
  have h1 := edge_span hc ho hk2
  have e1 : (chX x).la k = (edgeM x k).1.1.toNat := range_getD _ _ _ hk2
  have e2 : (chX x).st k = (edgeM x k).1.2.toNat := range_getD _ _ _ hk2
  rw [e1, e2]
  have e3 : (fullCrt x).edges[k] = (edgeM x k).1 := 
    (List.getElem_of_eq (show (fullCrt x).edges = (List.range x.edges.length).map (fun i => (edgeM x i).1) from rfl) hk).trans (by rw [List.getElem_map, List.getElem_range])
  rw [e3, Int.toNat_of_nonneg h1.1.1, Int.toNat_of_nonneg h1.2.1.1]
section
variable {v : ImgV} {x : Img} {w : World}
set_option maxRecDepth 100000 in
set_option maxHeartbeats 4000000 in
theorem engine30_no (hTb : Tab w) (h : ImgAt w v x) (hno : greatImg x = true ∨ (admM x).2.2 ≠ 0) :
    Calls Tryd.prog 4 #[.agg (imgCells v x).toArray] w fun e w' => e = .returned (.tuple #[.pointer none, .agg zE30.toArray]) ∧ Keep [] w w' := by
  obtain ⟨W1, hW1⟩ : ∃ W1, (w.alloc (.cells (imgCells v x).toArray 26)).alloc (.cells #[.int .i64 0, .slice none 0 0, .slice none 0 0, .slice none 0 0, .slice none 0 0, .slice none 0 0, .int .i64 0, .int .i64 0, .int .i64 0, .int .i64 0, .int .i64 0, .int .i64 0, .int .i64 0] 31) = W1 := ⟨_, rfl⟩
  have b0 : Blk W1 w.heap.size 26 (imgCells v x).toArray := by rw [← hW1]; exact (img_box w v x).alloc _
  have b1 : Blk W1 (w.heap.size + 1) 31 zE30.toArray := by rw [← hW1]; exact Blk.new1 _ _ _ _
  have K1 : Keep [] w W1 := by rw [← hW1]; exact ((Keep.refl _ w).alloc _).alloc _
  have HG := Lib.hid (great_any v x W1 (h.keep0 K1))
  have HAD := fun w' (k : Keep [] W1 w') => Lib.hid (admit_any v x w' (hTb.keep0 (K1.then k)) (h.keep0 (K1.then k)))
  have HC := fun w' (k : Keep [] W1 w') => Lib.hid ((b0.keep0 k).cellsAt)
  have HC3 := fun w' (k : Keep [] W1 w') => Lib.hid (img_c3 (b0.keep0 k))
  have HB1 := fun w' (k : Keep [] W1 w') => Lib.hid (b1.keep0 k)
  have HW := Lib.hid hW1
  have HK1 := Lib.hid K1
  have HIL : Hid ((imgCells v x).length = 4) := show _ = _ from rfl
  clear hW1 b0 K1 h hTb
  generalize imgCells v x = il at *
  have hbd := build_zE
  cases hg : greatImg x with
  | true =>
    rw [hg] at HG
    clear hno HAD HC3
    go_enter Tryd.func4, Tryd.ntmps4
    go_wp2_with (first
      | rw [HW.out]
      | (refine wpList_load_agg rfl 26 (.tmp 1) rfl rfl (cs := il) (by rw [HIL.out]; exact agg_image) (HC _ (Keep.refl _ _)).out ?_)
      | (go_at_call 12; refine HG.out.mono ?_; rintro _ w2 ⟨rfl, k2⟩)
      | (refine stop_store 31 (.tmp 3) (.tmp 12) rfl ?_))
    constructor
    refine wpList_store_all rfl 31 (.tmp 3) (.tmp 12) rfl rfl rfl (vs := zE30) agg_E30.2 (HB1 w2 k2).out zE30_one rfl ?_
    intro w3 d3 k3
    have K3 : Keep [] w w3 := (HK1.out.then k2).trans k3 (fun y hy hlt => by simp at hy; omega)
    go_wp2
    refine bodyPost_ret (results_tmp_blk rfl _ rfl rfl d3 agg_E30) rfl ?_
    exact ⟨rfl, K3⟩
  | false =>
    rw [hg] at HG
    have hcode : (admM x).2.2 ≠ 0 := by rcases hno with h | h; rw [hg] at h; cases h; exact h
    clear hno
    generalize admM x = r at *
    obtain ⟨cc, wh, code⟩ := r
    dsimp only at hcode
    have q0 : (code != 0) = true := by simpa using hcode
    have q1 : (code = 0) = False := eq_false hcode
    have HCL : ∀ vc : CrtV, Hid ((crtCells vc cc).length = 2) := fun vc => show _ = _ from rfl
    go_enter Tryd.func4, Tryd.ntmps4
    go_wp2_with (first
      | rw [HW.out]
      | (refine wpList_load_agg rfl 26 (.tmp 1) rfl rfl (cs := il) (by rw [HIL.out]; exact agg_image) (HC _ (Keep.refl _ _)).out ?_)
      | (go_at_call 12; refine HG.out.mono ?_; rintro _ w2 ⟨rfl, k2⟩)
      | (refine wpList_load_agg rfl 26 (.tmp 1) rfl rfl (cs := il) (by rw [HIL.out]; exact agg_image) (HC _ k2).out ?_)
      | (go_at_call 13; refine (HAD _ k2).out.mono ?_; rintro _ w3 ⟨vc, rfl, _, k3⟩)
      | (refine stop_store 54 (.tmp 4) (.tmp 16) rfl ?_))
    constructor
    refine wpList_store_all rfl 54 (.tmp 4) (.tmp 16) rfl rfl rfl (vs := crtCells vc cc) agg_cert.2 (Blk.new _ _ _) (by simp [crtCells, Value.oneCell']) rfl ?_
    intro w4 d4 k4
    have K4 : Keep [] w3 w4 := ((Keep.refl [] w3).alloc _).trans k4 (fun y hy hlt => by simp at hy; omega)
    have K14 := (k2.then k3).then K4
    have hb4 := (HB1 w4 K14).out
    clear d4 k4 K4
    go_upto_region 5 with fail
    go_wp2_with (refine stop_store 31 (.tmp 3) (.tmp 30) rfl ?_)
    constructor
    refine wpList_store_all rfl 31 (.tmp 3) (.tmp 30) rfl rfl rfl (vs := zE30) agg_E30.2 hb4 zE30_one rfl ?_
    intro w5 d5 k5
    have K5 : Keep [] w w5 := (HK1.out.then K14).trans k5 (fun y hy hlt => by simp at hy; omega)
    go_wp2
    refine bodyPost_ret (results_tmp_blk rfl _ rfl rfl d5 agg_E30) rfl ?_
    exact ⟨rfl, K5⟩
set_option maxRecDepth 100000 in
set_option maxHeartbeats 6000000 in
theorem engine30_yes (hTb : Tab w) (h : ImgAt w v x) (hg : greatImg x = false) (ha : (admM x).2.2 = 0) :
    Calls Tryd.prog 4 #[.agg (imgCells v x).toArray] w (RetEng w v (chX x) (fullCrt x)) := by
  obtain ⟨W1, hW1⟩ : ∃ W1, (w.alloc (.cells (imgCells v x).toArray 26)).alloc (.cells #[.int .i64 0, .slice none 0 0, .slice none 0 0, .slice none 0 0, .slice none 0 0, .slice none 0 0, .int .i64 0, .int .i64 0, .int .i64 0, .int .i64 0, .int .i64 0, .int .i64 0, .int .i64 0] 31) = W1 := ⟨_, rfl⟩
  have b0 : Blk W1 w.heap.size 26 (imgCells v x).toArray := by rw [← hW1]; exact (img_box w v x).alloc _
  have b1 : Blk W1 (w.heap.size + 1) 31 zE30.toArray := by rw [← hW1]; exact Blk.new1 _ _ _ _
  have K1 : Keep [] w W1 := by rw [← hW1]; exact ((Keep.refl _ w).alloc _).alloc _
  have HG := Lib.hid (great_any v x W1 (h.keep0 K1))
  rw [hg] at HG
  obtain ⟨hadm, m⟩ := chM_of h.ok ha
  have hR := right_of (adm_ok ha).1
  have HAD := fun w' (k : Keep [] W1 w') => Lib.hid (admitF_any v x w' (hTb.keep0 (K1.then k)) (h.keep0 (K1.then k)))
  rw [hadm] at HAD
  have HC := fun w' (k : Keep [] W1 w') => Lib.hid ((b0.keep0 k).cellsAt)
  have HC3 := fun w' (k : Keep [] W1 w') => Lib.hid (img_c3 (b0.keep0 k))
  have HB1 := fun w' (k : Keep [] W1 w') => Lib.hid (b1.keep0 k)
  have HIM := Lib.hid (fun w' (k : Keep [] W1 w') => h.keep0 (K1.then k))
  have HTB := Lib.hid (fun w' (k : Keep [] W1 w') => hTb.keep0 (K1.then k))
  have HW := Lib.hid hW1
  have HK1 := Lib.hid K1
  have HIL : Hid ((imgCells v x).length = 4) := show _ = _ from rfl
  have hle := hR.ne
  have hcl : (fullCrt x).edges.length = x.edges.length := m.len
  have hll : (chX x).lat.length = x.edges.length := by unfold chX; simp
  have hsl : (chX x).stl.length = x.edges.length := by unfold chX; simp
  have HSP := Lib.hid m.sp
  have HLL := Lib.hid hll
  have HSL := Lib.hid hsl
  have HMG := Lib.hid m.g
  have hqs : ∀ md ∈ x.modes, md.qs.length ≤ 20 := fun md hm => by
    have h3 := (hR.mode md hm).2
    unfold quesOk at h3
    simp only [Bool.and_eq_true, decide_eq_true_eq] at h3
    have := h3.1
    omega
  have hz1 : W1.heap.size = w.heap.size + 2 := by rw [← hW1]; simp
  have hnt : 0 ∉ [w.heap.size + 1] := fun hm => by
    simp only [List.mem_cons, List.not_mem_nil, or_false] at hm
    exact (hTb.keep0 K1).ne b1 (n := 0) rfl hm.symm
  have HNW := Lib.hid (fun vc w' (k : Keep [] W1 w') (hc : ∀ w2, Keep [w.heap.size + 1] w' w2 → CrtE w2 vc (fullCrt x)) => enew_any v x vc (fullCrt x) w' [w.heap.size + 1] (fun y hy => by simp at hy; have := k.size; omega) (fun w2 k2 => (hTb.keep0 (K1.then k)).keep k2 hnt) (h.keep0 (K1.then k)) hc (by have := hR.nt; omega) (by have := hR.nm; omega) (by omega) hqs)
  have HDN := Lib.hid (fun la lc sa sc w' => (show Calls Tryd.prog 15 #[.agg (imgCells v x).toArray, .slice la (chX x).lat.length lc, .slice sa (chX x).stl.length sc] w' fun e w2 => e = .returned (.agg (dcL ⟨v, la, lc, sa, sc⟩ (chX x) newDc).toArray) ∧ Keep [] w' w2 from dnew_any ⟨v, la, lc, sa, sc⟩ (chX x) w'))
  have HZ1 := Lib.hid hz1
  clear hW1 b0 b1 K1 h hTb hll hsl m hR hqs hz1 hnt
  generalize hcc : fullCrt x = cc at *
  clear hcc hadm ha hg
  generalize hX : chX x = X at *
  have hXx : X.x = x := by rw [← hX]; rfl
  subst hXx
  clear hX
  generalize imgCells v X.x = il at *
  go_enter Tryd.func4, Tryd.ntmps4
  go_wp2_with (first
    | rw [HW.out]
    | (refine wpList_load_agg rfl 26 (.tmp 1) rfl rfl (cs := il) (by rw [HIL.out]; exact agg_image) (HC _ (Keep.refl _ _)).out ?_)
    | (go_at_call 12; refine HG.out.mono ?_; rintro _ w2 ⟨rfl, k2⟩)
    | (refine wpList_load_agg rfl 26 (.tmp 1) rfl rfl (cs := il) (by rw [HIL.out]; exact agg_image) (HC _ k2).out ?_)
    | (go_at_call 13; refine (HAD _ k2).out.mono ?_; rintro _ w3 ⟨vc, rfl, hct, k3⟩)
    | (refine stop_store 54 (.tmp 4) (.tmp 16) rfl ?_))
  constructor
  refine wpList_store_all rfl 54 (.tmp 4) (.tmp 16) rfl rfl rfl (vs := crtCells vc cc) agg_cert.2 (Blk.new _ _ _) (by simp [crtCells, Value.oneCell']) rfl ?_
  intro w4 d4 k4
  have K4 : Keep [] w3 w4 := ((Keep.refl [] w3).alloc _).trans k4 (fun y hy hlt => by simp at hy; omega)
  have K14 := (k2.then k3).then K4
  have HCE := Lib.hid ((hct [] w4 K4 (by simp)).toE)
  have hw21 := k2.size
  have HCTF := Lib.hid (fun w5 (k : Keep [w.heap.size + 1] w4 w5) => (hct [w.heap.size + 1] w5 ((K4.mono (by simp)).trans k (fun y hy _ => hy)) (fun y hy => by simp at hy; have := HZ1.out; omega)).toE)
  clear hw21
  have HD4 := Lib.hid d4
  have HK14 := Lib.hid K14
  have e3 := (HC3 w4 K14).out
  have HE3 := Lib.hid (fun w' (k : Keep [] w4 w') => (HC3 w' (K14.then k)).out)
  have d41 : w4.cell? ⟨w3.heap.size, 1, none⟩ = some (.slice vc.ea X.x.edges.length vc.ec) := by rw [d4.cell, ← hcl]; rfl
  clear d4 k4 K4 hct k2 k3 K14 HC3
  generalize w3.heap.size = gc at *
  go_upto_region 8 with fail
  clear e3 d41
  have HCL := Lib.hid hcl
  clear hcl
  go_loopw [7, 8, 9] (fun v7 v8 v9 wr => ∃ (k : Nat) (LA SA : Option Addr) (pa pb : Nat), k ≤ X.x.edges.length ∧ v7 = .slice LA k pa ∧ v8 = .slice SA k pb ∧ v9 = .int .i64 (k : Int) ∧ LpAt w4 wr X k LA SA pa pb) (fun _ _ v9 _ => X.x.edges.length - (intOf v9).toNat)
  case atStart => exact ⟨0, none, none, 0, 0, Nat.zero_le _, rfl, rfl, rfl, World.ownsRow_nil _ _ _ _, World.ownsRow_nil _ _ _ _, (fun y hy => by cases hy), Keep.refl _ _⟩
  case round =>
    obtain ⟨k, LA, SA, pa, pb, hk, rfl, rfl, rfl, hI⟩ := hrel
    obtain ⟨OA, OB, hap, hkp⟩ := hI
    have HKP := Lib.hid hkp
    have d41 : wr.cell? ⟨gc, 1, none⟩ = some (.slice vc.ea X.x.edges.length vc.ec) := by rw [(HD4.out.keep0 hkp).cell, ← HCL.out]; rfl
    by_cases hlt : k < X.x.edges.length
    · have hce : k < cc.edges.length := by rw [HCL.out]; exact hlt
      obtain ⟨eb, eo, hEA, hbe, hec⟩ := Reads.elem (cells := spnCells) (size := 2) (l := cc.edges) HCE.out.edges rfl (fun a _ => rfl) k hce
      rw [HSP.out k hce] at hec
      have hbw4 : eb < w4.heap.size := hbe
      have hgw4 : gc < w4.heap.size := HD4.out.lt
      have hAlt : ∀ y, (Value.slice LA k pa).ownBlock = some y → y < wr.heap.size := fun y hy => (OA.lt y (by simpa using hy)).2
      have hBlt : ∀ y, (Value.slice SA k pb).ownBlock = some y → y < wr.heap.size := fun y hy => (OB.lt y (by simpa using hy)).2
      have hAb : ∀ y ∈ (Value.slice LA k pa).ownBlock.toList, w4.heap.size ≤ y := row_baseT OA
      have hBb : ∀ y ∈ (Value.slice SA k pb).ownBlock.toList, w4.heap.size ≤ y := row_baseT OB
      obtain ⟨F, hF0⟩ : ∃ F, (Value.slice LA k pa).ownBlock.toList ++ (Value.slice SA k pb).ownBlock.toList = F := ⟨_, rfl⟩
      have hFb : ∀ y ∈ F, w4.heap.size ≤ y := fun y hy => by
        rw [← hF0] at hy
        rcases List.mem_append.1 hy with hy | hy
        · exact hAb y hy
        · exact hBb y hy
      have hFA : ∀ y ∈ (Value.slice LA k pa).ownBlock.toList, y ∈ F := fun y hy => by rw [← hF0]; exact List.mem_append_left _ hy
      have hFB : ∀ y ∈ (Value.slice SA k pb).ownBlock.toList, y ∈ F := fun y hy => by rw [← hF0]; exact List.mem_append_right _ hy
      have hwr := hkp.size
      have hF : ∀ w', Keep F wr w' → w'.cell? ⟨gc, 1, none⟩ = some (.slice (some ⟨eb, eo, none⟩) X.x.edges.length vc.ec) ∧ w'.cell? ⟨eb, eo + k * 2, none⟩ = some (.int .i64 (X.la k : Int)) ∧ w'.cell? ⟨eb, eo + k * 2 + 1, none⟩ = some (.int .i64 (X.st k : Int)) := fun w' kk => by
        have c0 := (HKP.out.cell (p := ⟨eb, eo + k * 2 + 0, none⟩) hbe (by simp)).trans (hec 0 _ rfl)
        have c1 := (HKP.out.cell (p := ⟨eb, eo + k * 2 + 1, none⟩) hbe (by simp)).trans (hec 1 _ rfl)
        rw [Nat.add_zero] at c0
        refine ⟨?_, ?_, ?_⟩
        · rw [← hEA]
          exact (kk.cell (p := ⟨gc, 1, none⟩) (by show gc < _; omega) (fun hm => by have := hFb _ hm; dsimp only at this; omega)).trans d41
        · exact (kk.cell (p := ⟨eb, eo + k * 2, none⟩) (by show eb < _; omega) (fun hm => by have := hFb _ hm; dsimp only at this; omega)).trans c0
        · exact (kk.cell (p := ⟨eb, eo + k * 2 + 1, none⟩) (by show eb < _; omega) (fun hm => by have := hFb _ hm; dsimp only at this; omega)).trans c1
      have p0 : (0 : Int) ≤ (k : Int) := by omega
      have p1 : (k : Int) < (X.x.edges.length : Int) := by omega
      have hsa := natI_snoc (l := X.lat) (k := k) (by rw [HLL.out]; exact hlt)
      have hsb := natI_snoc (l := X.stl) (k := k) (by rw [HSL.out]; exact hlt)
      have HSA := Lib.hid hsa
      have HSB := Lib.hid hsb
      clear hec hsa hsb
      go_upto_region 10 with fail
      clear d41 hkp
      have hap0 := hap
      have OA0 := OA
      have OB0 := OB
      generalize hla : (X.la k : Int) = la at *
      generalize hst : (X.st k : Int) = st at *
      refine ap_begin 19 (Keep F wr) rfl (Keep.refl _ _).drew (fun hS hPan => ?_) (fun _ _ d _ _ h => by cases d <;> exact h)
      (refine ap_val (v := ?_) 0 rfl (by kernel_rfl) (by kernel_rfl) (by kernel_rfl) (by kernel_rfl) (by rfl) hPan ?_ hS ?_; rotate_left; (intro w' hSw; obtain ⟨f1,f2,f3⟩ := hF w' hSw; go_simp; try with_reducible rfl); simp only [Act.put, List.setIfInBounds_toArray, List.set_cons_zero, List.set_cons_succ])
      (refine ap_val (v := ?_) 1 rfl (by kernel_rfl) (by kernel_rfl) (by kernel_rfl) (by kernel_rfl) (by rfl) hPan ?_ hS ?_; rotate_left; (intro w' hSw; obtain ⟨f1,f2,f3⟩ := hF w' hSw; go_simp; try with_reducible rfl); simp only [Act.put, List.setIfInBounds_toArray, List.set_cons_zero, List.set_cons_succ])
      (refine ap_val (v := ?_) 2 rfl (by kernel_rfl) (by kernel_rfl) (by kernel_rfl) (by kernel_rfl) (by rfl) hPan ?_ hS ?_; rotate_left; (intro w' hSw; obtain ⟨f1,f2,f3⟩ := hF w' hSw; go_simp; try with_reducible rfl); simp only [Act.put, List.setIfInBounds_toArray, List.set_cons_zero, List.set_cons_succ])
      (refine ap_val (v := ?_) 3 rfl (by kernel_rfl) (by kernel_rfl) (by kernel_rfl) (by kernel_rfl) (by rfl) hPan ?_ hS ?_; rotate_left; (intro w' hSw; obtain ⟨f1,f2,f3⟩ := hF w' hSw; go_simp; try with_reducible rfl); simp only [Act.put, List.setIfInBounds_toArray, List.set_cons_zero, List.set_cons_succ])
      (refine ap_val (v := ?_) 4 rfl (by kernel_rfl) (by kernel_rfl) (by kernel_rfl) (by kernel_rfl) (by rfl) hPan ?_ hS ?_; rotate_left; (intro w' hSw; obtain ⟨f1,f2,f3⟩ := hF w' hSw; go_simp; try with_reducible rfl); simp only [Act.put, List.setIfInBounds_toArray, List.set_cons_zero, List.set_cons_succ])
      (refine ap_val (v := ?_) 5 rfl (by kernel_rfl) (by kernel_rfl) (by kernel_rfl) (by kernel_rfl) (by rfl) hPan ?_ hS ?_; rotate_left; (intro w' hSw; obtain ⟨f1,f2,f3⟩ := hF w' hSw; go_simp; try with_reducible rfl); simp only [Act.put, List.setIfInBounds_toArray, List.set_cons_zero, List.set_cons_succ])
      (refine ap_val (v := ?_) 6 rfl (by kernel_rfl) (by kernel_rfl) (by kernel_rfl) (by kernel_rfl) (by rfl) hPan ?_ hS ?_; rotate_left; (intro w' hSw; obtain ⟨f1,f2,f3⟩ := hF w' hSw; go_simp; try with_reducible rfl); simp only [Act.put, List.setIfInBounds_toArray, List.set_cons_zero, List.set_cons_succ])
      (refine ap_val (v := ?_) 9 rfl (by kernel_rfl) (by kernel_rfl) (by kernel_rfl) (by kernel_rfl) (by rfl) hPan ?_ hS ?_; rotate_left; (intro w' hSw; obtain ⟨f1,f2,f3⟩ := hF w' hSw; go_simp; try with_reducible rfl); simp only [Act.put, List.setIfInBounds_toArray, List.set_cons_zero, List.set_cons_succ])
      (refine ap_val (v := ?_) 10 rfl (by kernel_rfl) (by kernel_rfl) (by kernel_rfl) (by kernel_rfl) (by rfl) hPan ?_ hS ?_; rotate_left; (intro w' hSw; obtain ⟨f1,f2,f3⟩ := hF w' hSw; go_simp; try with_reducible rfl); simp only [Act.put, List.setIfInBounds_toArray, List.set_cons_zero, List.set_cons_succ])
      (refine ap_val (v := ?_) 11 rfl (by kernel_rfl) (by kernel_rfl) (by kernel_rfl) (by kernel_rfl) (by rfl) hPan ?_ hS ?_; rotate_left; (intro w' hSw; obtain ⟨f1,f2,f3⟩ := hF w' hSw; go_simp; try with_reducible rfl); simp only [Act.put, List.setIfInBounds_toArray, List.set_cons_zero, List.set_cons_succ])
      (refine ap_val (v := ?_) 12 rfl (by kernel_rfl) (by kernel_rfl) (by kernel_rfl) (by kernel_rfl) (by rfl) hPan ?_ hS ?_; rotate_left; (intro w' hSw; obtain ⟨f1,f2,f3⟩ := hF w' hSw; go_simp; try with_reducible rfl); simp only [Act.put, List.setIfInBounds_toArray, List.set_cons_zero, List.set_cons_succ])
      (refine ap_val (v := ?_) 13 rfl (by kernel_rfl) (by kernel_rfl) (by kernel_rfl) (by kernel_rfl) (by rfl) hPan ?_ hS ?_; rotate_left; (intro w' hSw; obtain ⟨f1,f2,f3⟩ := hF w' hSw; go_simp; try with_reducible rfl); simp only [Act.put, List.setIfInBounds_toArray, List.set_cons_zero, List.set_cons_succ])
      (refine ap_val (v := ?_) 14 rfl (by kernel_rfl) (by kernel_rfl) (by kernel_rfl) (by kernel_rfl) (by rfl) hPan ?_ hS ?_; rotate_left; (intro w' hSw; obtain ⟨f1,f2,f3⟩ := hF w' hSw; go_simp; try with_reducible rfl); simp only [Act.put, List.setIfInBounds_toArray, List.set_cons_zero, List.set_cons_succ])
      (refine ap_val (v := ?_) 15 rfl (by kernel_rfl) (by kernel_rfl) (by kernel_rfl) (by kernel_rfl) (by rfl) hPan ?_ hS ?_; rotate_left; (intro w' hSw; obtain ⟨f1,f2,f3⟩ := hF w' hSw; go_simp; try with_reducible rfl); simp only [Act.put, List.setIfInBounds_toArray, List.set_cons_zero, List.set_cons_succ])
      replace OA := own_keep0 OA ((Keep.refl [] wr).drew)
      replace OB := own_keep0 OB ((Keep.refl [] wr).drew)
      clear hF
      generalize wr.drew = wd at *
      refine ap_two 7 16 (by kernel_rfl) ?_ ?_
      · skip
        refine op_run (v := .slice (some ⟨wd.heap.size, 0, none⟩) 1 1) (w' := wd.alloc (.cells #[.int .i64 la] 3)) 7 rfl (by rfl) (by go_simp) ?_
        have BA := Blk.new wd 3 #[.int .i64 la]
        have SA := hS.alloc (.cells #[.int .i64 la] 3)
        have kx := (Keep.refl [] wd).alloc (.cells #[.int .i64 la] 3)
        replace OA := own_keep0 OA kx
        replace OB := own_keep0 OB kx
        have hgA := hS.size
        obtain ⟨gA, hgA2⟩ : ∃ gA, wd.heap.size = gA := ⟨_, rfl⟩
        rw [hgA2] at BA hgA ⊢
        generalize wd.alloc (.cells #[.int .i64 la] 3) = w5 at *
        refine ⟨fun _ => SA, ?_⟩
        clear hS kx hgA2
        have hS := SA
        clear SA
        (simp only [Act.put, List.setIfInBounds_toArray, List.set_cons_zero, List.set_cons_succ])
        refine ap_two 8 16 (by kernel_rfl) ?_ ?_
        · skip
          have hz1 := hS.size
          refine op_app 8 1 (.tmp 38) (.tmp 45) 29 rfl (by rfl) rfl slice_intT OA rfl rfl BA.cellsAt rfl (by simp [Value.oneCell']) (by omega) (by omega) (by unfold maxLen; omega) ?_
          intro vA w6 oA kA hbA
          have hS2 := hS.trans kA (fun y hy _ => hFA y hy)
          replace OB := own_keep OB kA (fun y hy hm => hap y (by simpa using hm) hy)
          have hzA := hz1
          obtain ⟨zA, hzA2⟩ : ∃ zA, w5.heap.size = zA := ⟨_, rfl⟩
          rw [hzA2] at hbA hzA
          refine ⟨fun _ => hS2, ?_⟩
          clear hS
          have hS := hS2
          clear hS2 hz1 hzA2
          (simp only [Act.put, List.setIfInBounds_toArray, List.set_cons_zero, List.set_cons_succ])
          refine ap_one 16 (by kernel_rfl) ?_
          refine op_run (v := .slice (some ⟨w6.heap.size, 0, none⟩) 1 1) (w' := w6.alloc (.cells #[.int .i64 st] 3)) 16 rfl (by rfl) (by go_simp) ?_
          have BB := Blk.new w6 3 #[.int .i64 st]
          have SB := hS.alloc (.cells #[.int .i64 st] 3)
          have kx := (Keep.refl [] w6).alloc (.cells #[.int .i64 st] 3)
          replace OB := own_keep0 OB kx
          replace oA := own_keep0 oA kx
          have hgB := hS.size
          obtain ⟨gB, hgB2⟩ : ∃ gB, w6.heap.size = gB := ⟨_, rfl⟩
          rw [hgB2] at BB hgB ⊢
          generalize w6.alloc (.cells #[.int .i64 st] 3) = w7 at *
          refine ⟨fun _ => SB, ?_⟩
          clear hS kx hgB2
          have hS := SB
          clear SB
          (simp only [Act.put, List.setIfInBounds_toArray, List.set_cons_zero, List.set_cons_succ])
          refine ap_one 17 (by kernel_rfl) ?_
          have hz1 := hS.size
          refine op_app 17 1 (.tmp 47) (.tmp 54) 29 rfl (by rfl) rfl slice_intT OB rfl rfl BB.cellsAt rfl (by simp [Value.oneCell']) (by omega) (by omega) (by unfold maxLen; omega) ?_
          intro vB w8 oB kB hbB
          have hS2 := hS.trans kB (fun y hy _ => hFB y hy)
          have hoAlt : ∀ y, vA.ownBlock = some y → y < w7.heap.size := fun y hy => (oA.lt y (by simpa using hy)).2
          have oA2 := own_keep oA kB (fun y hy hm => by
            rcases hbA with e | e
            · rw [e] at hy; exact hap y hy (by simpa using hm)
            · rw [e] at hy; cases hy; have := hBlt _ (by simpa using hm); omega)
          have hap2 := own_ap hbA hbB hap hAlt hBlt hzA hz1 hoAlt
          refine ⟨fun _ => hS2, ?_⟩
          clear hS
          have hS := hS2
          clear hS2
          (simp only [Act.put, List.setIfInBounds_toArray, List.set_cons_zero, List.set_cons_succ])
          obtain ⟨LA2, pa2, rfl⟩ := own_shape oA2
          obtain ⟨SA2, pb2, rfl⟩ := own_shape oB
          have HN : Hid (LpAt w4 w8 X (k + 1) LA2 SA2 pa2 pb2) := ⟨by rw [HSA.out]; rw [← hla] at oA2; exact oA2, by rw [HSB.out]; rw [← hst] at oB; exact oB, hap2, HKP.out.trans hS (fun y hy hlt => by have := hFb y hy; omega)⟩
          (refine ap_val (v := ?_) 18 rfl (by kernel_rfl) (by kernel_rfl) (by kernel_rfl) (by kernel_rfl) (by rfl) hPan ?_ hS ?_; rotate_left; (intro w' hSw; go_simp; try with_reducible rfl); simp only [Act.put, List.setIfInBounds_toArray, List.set_cons_zero, List.set_cons_succ])
          refine ap_one 19 (by kernel_rfl) ?_
          refine op_run (v := .slice SA2 (k + 1) pb2) (w' := w8) 19 rfl (by rfl) (by go_simp) ?_
          refine ⟨fun h => (by cases h), ap_done (by kernel_rfl) ?_ _⟩
          (simp only [Act.put])
          clear hS hPan OA OB OA0 OB0 oA oA2 oB hap hap0 hap2 hAlt hBlt hAb hBb hFb hFA hFB hF0 hbA hbB kA kB
          go_wp2
          rw [← hEA]
          go_roundw
          case rel => exact ⟨k + 1, LA2, SA2, pa2, pb2, hlt, rfl, rfl, by go_num, HN.out⟩
          case measure => simp [intOf] <;> omega
        · skip
          refine op_run (v := .slice (some ⟨w5.heap.size, 0, none⟩) 1 1) (w' := w5.alloc (.cells #[.int .i64 st] 3)) 16 rfl (by rfl) (by go_simp) ?_
          have BB := Blk.new w5 3 #[.int .i64 st]
          have SB := hS.alloc (.cells #[.int .i64 st] 3)
          have kx := (Keep.refl [] w5).alloc (.cells #[.int .i64 st] 3)
          replace OA := own_keep0 OA kx
          replace OB := own_keep0 OB kx
          replace BA := BA.keep0 kx
          have hgB := hS.size
          obtain ⟨gB, hgB2⟩ : ∃ gB, w5.heap.size = gB := ⟨_, rfl⟩
          rw [hgB2] at BB hgB ⊢
          generalize w5.alloc (.cells #[.int .i64 st] 3) = w6 at *
          refine ⟨fun _ => SB, ?_⟩
          clear hS kx hgB2
          have hS := SB
          clear SB
          (simp only [Act.put, List.setIfInBounds_toArray, List.set_cons_zero, List.set_cons_succ])
          refine ap_one 8 (by kernel_rfl) ?_
          have hz1 := hS.size
          refine op_app 8 1 (.tmp 38) (.tmp 45) 29 rfl (by rfl) rfl slice_intT OA rfl rfl BA.cellsAt rfl (by simp [Value.oneCell']) (by omega) (by omega) (by unfold maxLen; omega) ?_
          intro vA w7 oA kA hbA
          have hS2 := hS.trans kA (fun y hy _ => hFA y hy)
          replace OB := own_keep OB kA (fun y hy hm => hap y (by simpa using hm) hy)
          replace BB := BB.keep kA (fun hm => by have := hAlt _ (by simpa using hm); omega)
          have hzA := hz1
          obtain ⟨zA, hzA2⟩ : ∃ zA, w6.heap.size = zA := ⟨_, rfl⟩
          rw [hzA2] at hbA hzA
          refine ⟨fun _ => hS2, ?_⟩
          clear hS
          have hS := hS2
          clear hS2 hz1 hzA2
          (simp only [Act.put, List.setIfInBounds_toArray, List.set_cons_zero, List.set_cons_succ])
          refine ap_one 17 (by kernel_rfl) ?_
          have hz1 := hS.size
          refine op_app 17 1 (.tmp 47) (.tmp 54) 29 rfl (by rfl) rfl slice_intT OB rfl rfl BB.cellsAt rfl (by simp [Value.oneCell']) (by omega) (by omega) (by unfold maxLen; omega) ?_
          intro vB w8 oB kB hbB
          have hS2 := hS.trans kB (fun y hy _ => hFB y hy)
          have hoAlt : ∀ y, vA.ownBlock = some y → y < w7.heap.size := fun y hy => (oA.lt y (by simpa using hy)).2
          have oA2 := own_keep oA kB (fun y hy hm => by
            rcases hbA with e | e
            · rw [e] at hy; exact hap y hy (by simpa using hm)
            · rw [e] at hy; cases hy; have := hBlt _ (by simpa using hm); omega)
          have hap2 := own_ap hbA hbB hap hAlt hBlt hzA hz1 hoAlt
          refine ⟨fun _ => hS2, ?_⟩
          clear hS
          have hS := hS2
          clear hS2
          (simp only [Act.put, List.setIfInBounds_toArray, List.set_cons_zero, List.set_cons_succ])
          obtain ⟨LA2, pa2, rfl⟩ := own_shape oA2
          obtain ⟨SA2, pb2, rfl⟩ := own_shape oB
          have HN : Hid (LpAt w4 w8 X (k + 1) LA2 SA2 pa2 pb2) := ⟨by rw [HSA.out]; rw [← hla] at oA2; exact oA2, by rw [HSB.out]; rw [← hst] at oB; exact oB, hap2, HKP.out.trans hS (fun y hy hlt => by have := hFb y hy; omega)⟩
          (refine ap_val (v := ?_) 18 rfl (by kernel_rfl) (by kernel_rfl) (by kernel_rfl) (by kernel_rfl) (by rfl) hPan ?_ hS ?_; rotate_left; (intro w' hSw; go_simp; try with_reducible rfl); simp only [Act.put, List.setIfInBounds_toArray, List.set_cons_zero, List.set_cons_succ])
          refine ap_one 19 (by kernel_rfl) ?_
          refine op_run (v := .slice SA2 (k + 1) pb2) (w' := w8) 19 rfl (by rfl) (by go_simp) ?_
          refine ⟨fun h => (by cases h), ap_done (by kernel_rfl) ?_ _⟩
          (simp only [Act.put])
          clear hS hPan OA OB OA0 OB0 oA oA2 oB hap hap0 hap2 hAlt hBlt hAb hBb hFb hFA hFB hF0 hbA hbB kA kB
          go_wp2
          rw [← hEA]
          go_roundw
          case rel => exact ⟨k + 1, LA2, SA2, pa2, pb2, hlt, rfl, rfl, by go_num, HN.out⟩
          case measure => simp [intOf] <;> omega
      · skip
        refine op_run (v := .slice (some ⟨wd.heap.size, 0, none⟩) 1 1) (w' := wd.alloc (.cells #[.int .i64 st] 3)) 16 rfl (by rfl) (by go_simp) ?_
        have BB := Blk.new wd 3 #[.int .i64 st]
        have SB := hS.alloc (.cells #[.int .i64 st] 3)
        have kx := (Keep.refl [] wd).alloc (.cells #[.int .i64 st] 3)
        replace OA := own_keep0 OA kx
        replace OB := own_keep0 OB kx
        have hgB := hS.size
        obtain ⟨gB, hgB2⟩ : ∃ gB, wd.heap.size = gB := ⟨_, rfl⟩
        rw [hgB2] at BB hgB ⊢
        generalize wd.alloc (.cells #[.int .i64 st] 3) = w5 at *
        refine ⟨fun _ => SB, ?_⟩
        clear hS kx hgB2
        have hS := SB
        clear SB
        (simp only [Act.put, List.setIfInBounds_toArray, List.set_cons_zero, List.set_cons_succ])
        refine ap_one 7 (by kernel_rfl) ?_
        refine op_run (v := .slice (some ⟨w5.heap.size, 0, none⟩) 1 1) (w' := w5.alloc (.cells #[.int .i64 la] 3)) 7 rfl (by rfl) (by go_simp) ?_
        have BA := Blk.new w5 3 #[.int .i64 la]
        have SA := hS.alloc (.cells #[.int .i64 la] 3)
        have kx := (Keep.refl [] w5).alloc (.cells #[.int .i64 la] 3)
        replace OA := own_keep0 OA kx
        replace OB := own_keep0 OB kx
        replace BB := BB.keep0 kx
        have hgA := hS.size
        obtain ⟨gA, hgA2⟩ : ∃ gA, w5.heap.size = gA := ⟨_, rfl⟩
        rw [hgA2] at BA hgA ⊢
        generalize w5.alloc (.cells #[.int .i64 la] 3) = w6 at *
        refine ⟨fun _ => SA, ?_⟩
        clear hS kx hgA2
        have hS := SA
        clear SA
        (simp only [Act.put, List.setIfInBounds_toArray, List.set_cons_zero, List.set_cons_succ])
        refine ap_one 8 (by kernel_rfl) ?_
        have hz1 := hS.size
        refine op_app 8 1 (.tmp 38) (.tmp 45) 29 rfl (by rfl) rfl slice_intT OA rfl rfl BA.cellsAt rfl (by simp [Value.oneCell']) (by omega) (by omega) (by unfold maxLen; omega) ?_
        intro vA w7 oA kA hbA
        have hS2 := hS.trans kA (fun y hy _ => hFA y hy)
        replace OB := own_keep OB kA (fun y hy hm => hap y (by simpa using hm) hy)
        replace BB := BB.keep kA (fun hm => by have := hAlt _ (by simpa using hm); omega)
        have hzA := hz1
        obtain ⟨zA, hzA2⟩ : ∃ zA, w6.heap.size = zA := ⟨_, rfl⟩
        rw [hzA2] at hbA hzA
        refine ⟨fun _ => hS2, ?_⟩
        clear hS
        have hS := hS2
        clear hS2 hz1 hzA2
        (simp only [Act.put, List.setIfInBounds_toArray, List.set_cons_zero, List.set_cons_succ])
        refine ap_one 17 (by kernel_rfl) ?_
        have hz1 := hS.size
        refine op_app 17 1 (.tmp 47) (.tmp 54) 29 rfl (by rfl) rfl slice_intT OB rfl rfl BB.cellsAt rfl (by simp [Value.oneCell']) (by omega) (by omega) (by unfold maxLen; omega) ?_
        intro vB w8 oB kB hbB
        have hS2 := hS.trans kB (fun y hy _ => hFB y hy)
        have hoAlt : ∀ y, vA.ownBlock = some y → y < w7.heap.size := fun y hy => (oA.lt y (by simpa using hy)).2
        have oA2 := own_keep oA kB (fun y hy hm => by
          rcases hbA with e | e
          · rw [e] at hy; exact hap y hy (by simpa using hm)
          · rw [e] at hy; cases hy; have := hBlt _ (by simpa using hm); omega)
        have hap2 := own_ap hbA hbB hap hAlt hBlt hzA hz1 hoAlt
        refine ⟨fun _ => hS2, ?_⟩
        clear hS
        have hS := hS2
        clear hS2
        (simp only [Act.put, List.setIfInBounds_toArray, List.set_cons_zero, List.set_cons_succ])
        obtain ⟨LA2, pa2, rfl⟩ := own_shape oA2
        obtain ⟨SA2, pb2, rfl⟩ := own_shape oB
        have HN : Hid (LpAt w4 w8 X (k + 1) LA2 SA2 pa2 pb2) := ⟨by rw [HSA.out]; rw [← hla] at oA2; exact oA2, by rw [HSB.out]; rw [← hst] at oB; exact oB, hap2, HKP.out.trans hS (fun y hy hlt => by have := hFb y hy; omega)⟩
        (refine ap_val (v := ?_) 18 rfl (by kernel_rfl) (by kernel_rfl) (by kernel_rfl) (by kernel_rfl) (by rfl) hPan ?_ hS ?_; rotate_left; (intro w' hSw; go_simp; try with_reducible rfl); simp only [Act.put, List.setIfInBounds_toArray, List.set_cons_zero, List.set_cons_succ])
        refine ap_one 19 (by kernel_rfl) ?_
        refine op_run (v := .slice SA2 (k + 1) pb2) (w' := w8) 19 rfl (by rfl) (by go_simp) ?_
        refine ⟨fun h => (by cases h), ap_done (by kernel_rfl) ?_ _⟩
        (simp only [Act.put])
        clear hS hPan OA OB OA0 OB0 oA oA2 oB hap hap0 hap2 hAlt hBlt hAb hBb hFb hFA hFB hF0 hbA hbB kA kB
        go_wp2
        rw [← hEA]
        go_roundw
        case rel => exact ⟨k + 1, LA2, SA2, pa2, pb2, hlt, rfl, rfl, by go_num, HN.out⟩
        case measure => simp [intOf] <;> omega
    · obtain rfl : k = X.x.edges.length := by omega
      have p1 : ¬ (X.x.edges.length : Int) < (X.x.edges.length : Int) := by omega
      have p2 : decide ((X.x.edges.length : Int) < (X.x.edges.length : Int)) = false := by simp
      have hK : Keep [] W1 wr := HK14.out.then HKP.out
      have hdn := HDN.out LA pa SA pb
      rw [HLL.out, HSL.out] at hdn
      have HDN2 := Lib.hid hdn
      have HNW2 := Lib.hid (fun w' (k : Keep [] wr w') => HNW.out vc w' (hK.then k) (fun w2 k2 => HCTF.out w2 (((HKP.out.then k).mono (by simp)).trans k2 (fun y hy _ => hy))))
      have hIm : ∀ w', Keep [] wr w' → CellsAt w' w.heap.size 0 il := fun w' k => (HC w' (hK.then k)).out
      have hCt : ∀ w', Keep [] wr w' → CellsAt w' gc 0 (crtCells vc cc) := fun w' k => (HD4.out.keep0 (HKP.out.then k)).cellsAt
      have HBW := Lib.hid (fun w' (k : Keep [] wr w') => (HB1 w' (hK.then k)).out)
      have HKW := Lib.hid (HK1.out.then hK)
      have HCT2 : Hid ((crtCells vc cc).length = 2) := show _ = _ from rfl
      have HOA := Lib.hid OA
      have HOB := Lib.hid OB
      have hwb := (HK1.out.then HK14.out).size
      clear HNW HDN hdn OA OB hap hkp hK HC HB1 HAD
      generalize hcr : crtCells vc cc = cr at *
      go_upto_region 11 with fail
      clear d41
      refine ap_begin 8 (Keep [] wr) rfl (Keep.refl _ _).drew (fun hS hPan => ?_) (fun _ _ d _ _ h => by cases d <;> exact h)
      refine ap_agg 0 26 (.tmp 1) il rfl (by kernel_rfl) (by kernel_rfl) (by kernel_rfl) (by kernel_rfl) (by rfl) hPan rfl rfl (by rw [HIL.out]; exact agg_image) hIm hS ?_
      (simp only [Act.put, List.setIfInBounds_toArray, List.set_cons_zero, List.set_cons_succ])
      refine ap_agg 1 54 (.tmp 4) cr rfl (by kernel_rfl) (by kernel_rfl) (by kernel_rfl) (by kernel_rfl) (by rfl) hPan rfl rfl (by rw [HCT2.out]; exact agg_cert) hCt hS ?_
      (simp only [Act.put, List.setIfInBounds_toArray, List.set_cons_zero, List.set_cons_succ])
      refine ap_agg 3 26 (.tmp 1) il rfl (by kernel_rfl) (by kernel_rfl) (by kernel_rfl) (by kernel_rfl) (by rfl) hPan rfl rfl (by rw [HIL.out]; exact agg_image) hIm hS ?_
      (simp only [Act.put, List.setIfInBounds_toArray, List.set_cons_zero, List.set_cons_succ])
      (refine ap_val (v := ?_) 4 rfl (by kernel_rfl) (by kernel_rfl) (by kernel_rfl) (by kernel_rfl) (by rfl) hPan ?_ hS ?_; rotate_left; (intro w' hSw; go_simp; try with_reducible rfl); simp only [Act.put, List.setIfInBounds_toArray, List.set_cons_zero, List.set_cons_succ])
      (refine ap_val (v := ?_) 5 rfl (by kernel_rfl) (by kernel_rfl) (by kernel_rfl) (by kernel_rfl) (by rfl) hPan ?_ hS ?_; rotate_left; (intro w' hSw; go_simp; try with_reducible rfl); simp only [Act.put, List.setIfInBounds_toArray, List.set_cons_zero, List.set_cons_succ])
      generalize wr.drew = wd at *
      refine ap_one 2 (by kernel_rfl) ?_
      refine op_call (f := 14) 2 rfl (by rfl) rfl (by simp only [List.map_toArray, List.map_cons, List.map_nil]; rfl) Tryd.func14 (by kernel_rfl) (by kernel_rfl) (HNW2.out _ hS) ?_
      rintro e2 w5 ⟨b, v', rfl, hb5, E5, k5⟩
      have hbz := hS.size
      replace hS := hS.then k5
      refine ⟨_, rfl, fun _ => hS, ?_⟩
      (simp only [Act.put, List.setIfInBounds_toArray, List.set_cons_zero, List.set_cons_succ])
      refine ap_one 6 (by kernel_rfl) ?_
      refine op_call (f := 15) 6 rfl (by rfl) rfl (by simp only [List.map_toArray, List.map_cons, List.map_nil]; rfl) Tryd.func15 (by kernel_rfl) (by kernel_rfl) (HDN2.out w5) ?_
      rintro e3 w6 ⟨rfl, k6⟩
      replace hS := hS.then k6
      refine ⟨_, rfl, fun _ => hS, ?_⟩
      (simp only [Act.put, List.setIfInBounds_toArray, List.set_cons_zero, List.set_cons_succ])
      (refine ap_val (v := ?_) 7 rfl (by kernel_rfl) (by kernel_rfl) (by kernel_rfl) (by kernel_rfl) (by rfl) hPan ?_ hS ?_; rotate_left; (intro w' hSw; go_simp; try with_reducible rfl); simp only [Act.put, List.setIfInBounds_toArray, List.set_cons_zero, List.set_cons_succ])
      refine ap_one 8 (by kernel_rfl) ?_
      refine op_store_all 8 rfl (by rfl) rfl rfl rfl (vs := dcL ⟨v, LA, pa, SA, pb⟩ X newDc) agg_E30.2 (HBW.out w6 hS) (dcL_one _ _ _) rfl ?_
      intro w7 d7 k7
      refine ⟨fun h => (by cases h), ap_done (by kernel_rfl) ?_ _⟩
      (simp only [Act.put])
      have E7 := Lib.hid (E5 w7 ((k6.mono (by simp)).trans k7 (fun y hy _ => hy)))
      have hK7 : Keep [] w w7 := (HKW.out.then hS).trans k7 (fun y hy hlt => by simp at hy; omega)
      have HK7 := Lib.hid hK7
      have HA7 := Lib.hid (own_keep (own_keep0 HOA.out hS) k7 (fun y hy hm => by simp at hm; subst hm; exact unown_ne (own_keep0 HOA.out hS) (HBW.out w6 hS) (by decide) hy))
      have HB7 := Lib.hid (own_keep (own_keep0 HOB.out hS) k7 (fun y hy hm => by simp at hm; subst hm; exact unown_ne (own_keep0 HOB.out hS) (HBW.out w6 hS) (by decide) hy))
      have hwb2 : w.heap.size ≤ b := Nat.le_trans (Nat.le_trans HKW.out.size hbz) hb5
      clear hPan hS E5 k5 k6 k7 hIm hCt hK7 HNW2 HDN2
      go_wp2
      refine bodyPost_ret (results_tmp_blk rfl _ rfl rfl d7 agg_E30) rfl ?_
      have o1 := own_base HA7.out hwb
      have o2 := own_base HB7.out hwb
      rw [← HLL.out] at o1
      rw [← HSL.out] at o2
      rw [List.take_length] at o1 o2
      exact ⟨b, v', vc, ⟨v, LA, pa, SA, pb⟩, rfl, hwb2, E7.out, rfl, o1, o2, HK7.out⟩
end
end Go.Proofs.YteflgdnekflbbaaDoor

namespace Go.Proofs.YteflgdnekflbbaaDoor
open Go.RowKit
attribute [local go_sem] Oper.semAt_some

def tkN (t : Int) : Nat := (Int.tmod t 200 % 200 + 1).toNat
theorem tmod200 (t : Int) : -200 < Int.tmod t 200 ∧ Int.tmod t 200 < 200 := by
  refine ⟨?_, Int.tmod_lt_of_pos t (by decide)⟩
  rcases Int.lt_or_le t 0 with h | h
  · have h1 := Int.tmod_lt_of_pos (-t) (show (0 : Int) < 200 by decide)
    rw [Int.neg_tmod] at h1
    omega
  · have := Int.tmod_nonneg 200 h
    omega
theorem tkN_is (t : Int) : 1 ≤ tkN t ∧ tkN t ≤ 200 ∧ Int.tmod t 200 % 200 + 1 = (tkN t : Int) := by
  unfold tkN
  omega
def opCells (ask : Bool) (md tk : Int) (live : Nat) : List Value := [.bool ask, .int .i64 md, .int .i64 tk, .int .u32 (live : Int)]
theorem agg_op30 : AggOf Tryd.prog 38 4 := ⟨by kernel_rfl, by kernel_rfl⟩
set_option maxRecDepth 100000 in
theorem ticks30_any (ask : Bool) (md tk : Int) (live : Nat) (w : World) : Calls Tryd.prog 7 #[.agg (opCells ask md tk live).toArray] w fun e w' => e = .returned (.int .i64 (tkN tk : Int)) ∧ Keep [] w w' := by
  have hb := Blk.new w 38 (opCells ask md tk live).toArray
  have c2 : (w.alloc (.cells (opCells ask md tk live).toArray 38)).cell? ⟨w.heap.size, 2, none⟩ = some (.int .i64 tk) := by rw [hb.cell]; rfl
  have K := (Keep.refl [] w).alloc (.cells (opCells ask md tk live).toArray 38)
  obtain ⟨g1, g2⟩ := tmod200 tk
  have HT := Lib.hid (tkN_is tk).2.2
  have HK := Lib.hid K
  clear hb K
  generalize (opCells ask md tk live).toArray = cs at *
  go_enter Tryd.func7, Tryd.ntmps7
  go_wp2
  go_ret
  exact ⟨congrArg (fun n => Ending.returned (.int .i64 n)) HT.out, HK.out⟩
/-- The example: another mode is asked for while no job is there. -/
theorem ex_ask : askE (chX (exT 2)) newS 1 false = (⟨1, none, 0, 0, 0, none, 0, []⟩, [⟨1, 0, 1, 0⟩, ⟨2, 0, 1, 0⟩, ⟨3, 0, 1, 0⟩], 0) := by kernel_rfl
set_option maxRecDepth 100000 in
set_option maxHeartbeats 2000000 in
theorem alive30_any (w : World) (hTb : Tab w) : Calls Tryd.prog 5 #[] w fun e w' => e = .returned (.bool true) ∧ Keep [] w w' := by
  have hg : greatImg (exT 2) = false := by kernel_rfl
  have ha : (admM (exT 2)).2.2 = 0 := by rw [exT_adm]
  have HEN := Lib.hid (fun v w' (k : Keep [] w w') (h : ImgAt w' v (exT 2)) => (engine30_yes (hTb.keep0 k) h hg ha))
  have HM := Lib.hid (fun (ho : (exT 2).Ok) => (chM_of ho ha).2)
  clear hTb
  go_enter Tryd.func5, Tryd.ntmps5
  go_wp2_with (first
    | (go_at_call 16; refine (three_no _).mono ?_; rintro _ w2 ⟨v, rfl, hI, k2⟩)
    | (go_at_call 4; refine (HEN.out v _ k2 hI).mono ?_; rintro _ w3 ⟨b, v', vc, V, rfl, hb3, E3, _, _, _, k3⟩)
    | (refine stop_store 31 (.tmp 2) (.tmp 9) rfl ?_))
  constructor
  refine wpList_store_all rfl 31 (.tmp 2) (.tmp 9) rfl rfl rfl (vs := dcL V (chX (exT 2)) newDc) agg_E30.2 (Blk.new _ _ _) (dcL_one _ _ _) rfl ?_
  intro w4 d4 k4
  have K34 : Keep [] w3 w4 := ((Keep.refl [] w3).alloc _).trans k4 (fun y hy hlt => by simp at hy; omega)
  have E4 := E3.keep0 K34
  have m := HM.out hI.ok
  have hask := easkm_any m E4 (eshiftA m.g) (fun k hk => by cases hk) (fun _ => rfl) (by decide) 1 0
  rw [show decide ((0 : Nat) ≠ 0) = false from rfl, ex_ask] at hask
  have HA := Lib.hid hask
  have K4 := Lib.hid ((k2.then k3).then K34)
  have hwb : w.heap.size ≤ b := Nat.le_trans k2.size hb3
  clear d4 k4 K34 E3 E4 hask m HM hI k2 k3 HEN
  go_upto_region 5 with (go_at_call 6; refine HA.out.mono ?_; rintro _ w5 ⟨A, p, bs, rfl, o5, E5, hb5, k5⟩)
  obtain ⟨gb, go, rfl, hgb, hcs⟩ := (Reads.of_own o5).addr (by decide)
  have c0 : w5.cell? ⟨gb, go, none⟩ = some (.bool true) := hcs 0 _ rfl
  have c1 : w5.cell? ⟨gb, go + 6 + 1, none⟩ = some (.bool true) := hcs 7 _ rfl
  have c2 : w5.cell? ⟨gb, go + 6 + 4, none⟩ = some (.int .i64 1) := hcs 10 _ rfl
  have c3 : w5.cell? ⟨gb, go + 12 + 2, none⟩ = some (.bool true) := hcs 14 _ rfl
  have HMo := Lib.hid (emode_any E5)
  have HPh := Lib.hid (ephase_any E5)
  have HF := Lib.hid (K4.out.trans k5 (fun y hy hlt => by
    have hy : y = b := by simpa using hy
    omega))
  clear o5 E5 hb5 k5 hcs HA
  go_wp2_with (first
    | (go_at_call 17; refine HMo.out.mono ?_; rintro _ w6 ⟨rfl, rfl⟩)
    | (go_at_call 11; refine HPh.out.mono ?_; rintro _ w7 ⟨rfl, rfl⟩))
  go_ret
  exact ⟨rfl, HF.out⟩
end Go.Proofs.YteflgdnekflbbaaDoor

namespace Go.Proofs.YteflgdnekflbbaaDoor
open Go.ChangeShapes Go.WideShapes Go.ChangeAt Go.RowKit Go.Deep

structure Op30 where
  ask : Bool
  md : Int
  tk : Int
  live : Nat
def op30Cells (o : Op30) : List Value := opCells o.ask o.md o.tk o.live
structure Ops30At (w : World) (A : Option Addr) (l : List Op30) : Prop where
  rows : Reads w 4 A l.length (l.flatMap op30Cells)
  lt : ∀ y ∈ l, y.live < 4294967296
  len : l.length ≤ maxLen
section
variable {H : Type} {enc : TypeId × Value → H} {w : World} {base : Nat} {spare : Nat → Bool} {held : Bool}
set_option maxRecDepth 100000 in
theorem rd_op30 {n : Nat} {cs : List Value} {x : DataW H × List MemPlace} (h : DataW.trod enc Tryd.prog w base spare held n 38 cs = some x) : ∃ m : Op30, cs = op30Cells m ∧ m.live < 4294967296 := by
  obtain ⟨xs, m, _, _, hlen, hxl, hf⟩ := DataW.trod_struct Tryd.underlying38 h
  have hC : Tryd.prog.cellsOf 38 = 4 := by kernel_rfl
  have c0 : Tryd.prog.cellsOf 4 = 1 := by kernel_rfl
  have c1 : Tryd.prog.cellsOf 3 = 1 := by kernel_rfl
  have c2 : Tryd.prog.cellsOf 36 = 1 := by kernel_rfl
  rw [hC] at hlen
  match cs, hlen, xs, hxl with
  | [v0, v1, v2, v3], _, [y0, y1, y2, y3], _ =>
    have h0 : DataW.trod enc Tryd.prog w base spare held m 4 (List.take (Tryd.prog.cellsOf 4) (List.drop 0 [v0, v1, v2, v3])) = some y0 := hf 0 _ rfl
    rw [c0] at h0
    have h1 : DataW.trod enc Tryd.prog w base spare held m 3 (List.take (Tryd.prog.cellsOf 3) (List.drop 1 [v0, v1, v2, v3])) = some y1 := hf 1 _ rfl
    rw [c1] at h1
    have h2 : DataW.trod enc Tryd.prog w base spare held m 3 (List.take (Tryd.prog.cellsOf 3) (List.drop 2 [v0, v1, v2, v3])) = some y2 := hf 2 _ rfl
    rw [c1] at h2
    have h4 : DataW.trod enc Tryd.prog w base spare held m 36 (List.take (Tryd.prog.cellsOf 36) (List.drop 3 [v0, v1, v2, v3])) = some y3 := hf 3 _ rfl
    rw [c2] at h4
    obtain ⟨k0, e0, _⟩ := DataW.trod_bool Tryd.underlying4 h0
    obtain ⟨k1, e1, _, _⟩ := DataW.trod_int Tryd.underlying3 h1
    obtain ⟨k2, e2, _, _⟩ := DataW.trod_int Tryd.underlying3 h2
    obtain ⟨k3, e3, _, w3⟩ := DataW.trod_int Tryd.underlying36 h4
    obtain ⟨m3, rfl, hm3⟩ := wf_bounds_u32 w3
    obtain rfl : v0 = .bool k0 := by simpa using e0
    obtain rfl : v1 = .int .i64 k1 := by simpa using e1
    obtain rfl : v2 = .int .i64 k2 := by simpa using e2
    obtain rfl : v3 = .int .u32 m3 := by simpa using e3
    exact ⟨⟨k0, k1, k2, m3⟩, rfl, hm3⟩
theorem rd_ops30 {n : Nat} {cs : List Value} {x : DataW H × List MemPlace} (h : DataW.trod enc Tryd.prog w base spare held n 27 cs = some x) :
    ∃ (A : Option Addr) (c : Nat) (ms : List Op30), cs = [.slice A ms.length c] ∧ Ops30At w A ms := by
  obtain ⟨A, k, c, xs, rfl, h1, h2, h3, h4, h5⟩ := rd_plain (cells := op30Cells) (ok := fun m => m.live < 4294967296) (size := 4) Tryd.underlying27 (by kernel_rfl) (by decide) (fun n cs x h => rd_op30 h) h
  subst h3
  exact ⟨A, c, xs, rfl, h4, h5, Nat.le_trans h1 h2⟩
end
/-- Both engines, in the law's loop: W3 is the world in which they were made. -/
structure LawM (w W3 wr : World) (X : ChX) (c : Crt) (V : DcV) (v : ImgV) (vc : CrtV) (b g : Nat) (s : EnS) (d : DcS) : Prop where
  base : EngAt W3 b v X.x vc c newS []
  e : ∃ bs, EngAt wr b v X.x vc c s bs ∧ (∀ y ∈ bs, W3.heap.size ≤ y)
  bz : w.heap.size ≤ b
  wz : w.heap.size ≤ W3.heap.size
  gz : W3.heap.size ≤ g
  img : ∀ w2, Keep [] w w2 → ImgAt w2 V.v X.x
  la : wr.ownsRow w.heap.size 3 1 (.slice V.la X.lat.length V.lc) X.lat.length (natI X.lat)
  sa : wr.ownsRow w.heap.size 3 1 (.slice V.sa X.stl.length V.sc) X.stl.length (natI X.stl)
  ll : X.lat.length = X.x.edges.length
  sl : X.stl.length = X.x.edges.length
  dd : Blk wr g 31 (dcL V X d).toArray
  k : Keep [] w wr
  kb : Keep [b] W3 wr
section
variable {w W3 wr w' : World} {X : ChX} {c : Crt} {V : DcV} {v : ImgV} {vc : CrtV} {b g : Nat} {s s' : EnS} {d d' : DcS}
theorem LawM.x (h : LawM w W3 wr X c V v vc b g s d) : DcX wr V X :=
  ⟨fun w2 k2 => h.img w2 (h.k.then k2), fun w2 k2 => Reads.of_own (own_keep0 h.la k2), fun w2 k2 => Reads.of_own (own_keep0 h.sa k2), h.ll, h.sl⟩
theorem LawM.keep0 (h : LawM w W3 wr X c V v vc b g s d) (k : Keep [] wr w') : LawM w W3 w' X c V v vc b g s d := by
  obtain ⟨bs, E, hb⟩ := h.e
  exact ⟨h.base, ⟨bs, E.keep0 k, hb⟩, h.bz, h.wz, h.gz, h.img, own_keep0 h.la k, own_keep0 h.sa k, h.ll, h.sl, h.dd.keep0 k, h.k.then k, h.kb.then k⟩
/-- The program's engine moves on. -/
theorem LawM.mid {bs bs' : List Nat} (h : LawM w W3 wr X c V v vc b g s d) (E0 : EngAt wr b v X.x vc c s bs) (hb0 : ∀ y ∈ bs, W3.heap.size ≤ y) (E : EngAt w' b v X.x vc c s' bs') (hb : ∀ y ∈ bs', y ∈ bs ∨ wr.heap.size ≤ y) (k : Keep (b :: bs) wr w') : LawM w W3 w' X c V v vc b g s' d := by
  have hsz := h.k.size
  have hsz3 := h.kb.size
  have hbb := h.bz
  have hwz := h.wz
  refine ⟨h.base, ⟨bs', E, fun y hy => ?_⟩, h.bz, h.wz, h.gz, h.img, own_keep h.la k (E0.typed h.la (by decide) (by decide)), own_keep h.sa k (E0.typed h.sa (by decide) (by decide)), h.ll, h.sl, h.dd.keep k (fun hm => ?_), h.k.trans k (fun y hy hlt => ?_), h.kb.trans k (fun y hy hlt => ?_)⟩
  · rcases hb y hy with hy | hy
    · exact hb0 y hy
    · omega
  · obtain ⟨A, q⟩ := E0.tq
    rcases List.mem_cons.1 hm with rfl | hm
    · have h1 : wr.heap[g]? = _ := q.blk
      have h2 : wr.heap[g]? = _ := h.dd
      rw [h2] at h1
      simp at h1
    · obtain ⟨cs, h0, _⟩ := q.typed g hm
      have h1 : wr.heap[g]? = _ := h0
      have h2 : wr.heap[g]? = _ := h.dd
      rw [h2] at h1
      simp at h1
  · rcases List.mem_cons.1 hy with rfl | hy
    · omega
    · have := hb0 y hy; omega
  · rcases List.mem_cons.1 hy with rfl | hy
    · simp
    · have := hb0 y hy; omega
/-- The document's has done the same. -/
theorem LawM.done (h : LawM w W3 wr X c V v vc b g s d) (hd : Blk w' g 31 (dcL V X d').toArray) (k : Keep [g] wr w') : LawM w W3 w' X c V v vc b g s d' := by
  obtain ⟨bs, E, hb⟩ := h.e
  have hgz := h.gz
  have hwz := h.wz
  have hbW := h.base.lt
  have hg : g ∉ bs := fun hm => by
    obtain ⟨A, q⟩ := E.tq
    obtain ⟨cs, h0, _⟩ := q.typed g hm
    have h1 : wr.heap[g]? = _ := h0
    have h2 : wr.heap[g]? = _ := h.dd
    rw [h2] at h1
    simp at h1
  refine ⟨h.base, ⟨bs, h.base.aside E h.kb (fun y hy => .inr (hb y hy)) k (fun y hy => ?_), hb⟩, h.bz, h.wz, h.gz, h.img, own_keep h.la k (fun y hy hm => by simp at hm; subst hm; exact unown_ne h.la h.dd (by decide) hy), own_keep h.sa k (fun y hy hm => by simp at hm; subst hm; exact unown_ne h.sa h.dd (by decide) hy), h.ll, h.sl, hd, h.k.trans k (fun y hy hlt => by simp at hy; omega), h.kb.trans k (fun y hy hlt => by simp at hy; omega)⟩
  simp at hy
  subst hy
  exact ⟨hgz, hg⟩
end
end Go.Proofs.YteflgdnekflbbaaDoor
