/- StoreTells, walked: the candidates are those that the device's words say. No condition. StoreTells, walked: the candidates are those that the device's words say. No condition. -/
import Derived.Test.YteanpgkonhdbpaaSrDocC
import Derived.Test.YteanpgkonhdbpaaRelFlow
import Derived.Deep.DeepCutAuto
import Derived.Deep.CutBlock
namespace Go.Proofs.Yteanpgkonhdbpaa
open Go.RowKit

theorem reads_sub {w : World} {q o n : Nat} {l : List Value} (h : Reads w 1 (some ⟨q, o, none⟩) n l) (k m : Nat) (hk : k + m ≤ n) (hn : 0 < n) : Reads w 1 (some ⟨q, o + k, none⟩) m ((l.drop k).take m) := by
  have hl : l.length = n := by have := h.len; rw [Nat.mul_one] at this; exact this
  obtain ⟨b, o', e, hb, hc⟩ := h.addr hn
  injection e with e
  injection e with e1 e2
  subst e1
  subst e2
  refine ⟨by rw [List.length_take, List.length_drop]; omega, fun _ => ⟨q, o + k, rfl, hb, fun j u hj => ?_⟩⟩
  have hjm : j < m := by
    have := (List.getElem?_eq_some_iff.1 hj).1
    rw [List.length_take, List.length_drop] at this
    omega
  rw [List.getElem?_take, if_pos hjm, List.getElem?_drop] at hj
  have := hc (k + j) u hj
  rw [Nat.add_assoc]
  exact this
theorem SecsAt.sub {w : World} {q o : Nat} {ps : List SecP} (h : SecsAt w (some ⟨q, o, none⟩) ps) (k m : Nat) (hk : k + m ≤ ps.length) (hn : 0 < ps.length) : SecsAt w (some ⟨q, o + k, none⟩) ((ps.drop k).take m) := by
  have hl : ((ps.drop k).take m).length = m := by rw [List.length_take, List.length_drop]; omega
  refine ⟨?_, fun x hx => h.each x (List.mem_of_mem_drop (List.mem_of_mem_take hx))⟩
  have := reads_sub h.rows k m hk hn
  rw [hl, List.map_take, List.map_drop]
  exact this
/-- The document's data are the bank's. -/
theorem sect_flat {d : Dev} (σ : Nat) : ∀ m, ((List.range m).map (fun j => sectL d (σ + j))).flatten = (d.bits.drop (σ * d.nw)).take (m * d.nw)
  | 0 => by simp
  | m + 1 => by
    rw [List.range_succ, List.map_append, List.flatten_append, sect_flat σ m, Nat.add_mul, Nat.one_mul, List.take_add, List.drop_drop]
    congr 1
    simp only [List.map_cons, List.map_nil, List.flatten_cons, List.flatten_nil, List.append_nil]
    unfold sectL
    rw [Nat.add_mul]
theorem datD_dev {d : Dev} {ps : List SecP} {σ n : Nat} (h2 : 2 ≤ n) (hp : ps.map SecP.l = (List.range n).map (fun j => sectL d (σ + j))) : datD ps ps.length = (d.bits.drop ((σ + 2) * d.nw)).take ((n - 2) * d.nw) := by
  have hl : ps.length = n := by have := congrArg List.length hp; simpa using this
  unfold datD
  rw [List.take_length, List.flatMap_def, List.map_drop, hp, ← sect_flat (σ + 2) (n - 2), ← List.map_drop]
  congr 1
  refine List.ext_getElem? fun k => ?_
  simp only [List.getElem?_map, List.getElem?_drop]
  by_cases hk : k < n - 2
  · rw [List.getElem?_range (by omega), List.getElem?_range hk]
    simp only [Option.map_some]
    congr 2
    omega
  · rw [List.getElem?_eq_none (by rw [List.length_range]; omega), List.getElem?_eq_none (by rw [List.length_range]; omega)]
    rfl
/-- What a bank's words say, by the document, is its candidate. -/
theorem bankD_cand {s : StS} {i : Nat} (ho : s.d.Ok) (hon : s.d.on = true) (hk : BkOk s.d (s.bk i)) {ps : List SecP} (hp : ps.map SecP.l = (List.range (s.bk i).many).map (fun j => sectL s.d ((s.bk i).base + j))) (h0 : 0 < ps.length) (h1 : 1 < ps.length) :
    bankD i (ps[0].l.getD 0 0) (headH ps[1].l) (datD ps ps.length) = candS s i := by
  have h3 := hk.three
  have hw := hk.words
  have hps : ∀ (j : Nat) (hj : j < ps.length), ps[j].l = sectL s.d ((s.bk i).base + j) := fun j hj => by
    have hl : ps.length = (s.bk i).many := by have := congrArg List.length hp; simpa using this
    have := congrArg (fun l => l[j]?) hp
    simp only [List.getElem?_map] at this
    rw [List.getElem?_eq_getElem hj, List.getElem?_range (by omega)] at this
    simpa using this
  rw [datD_dev (by omega) hp, hps 0 h0, hps 1 h1]
  have hx : (sectL s.d ((s.bk i).base + 0)).getD 0 0 = wdJ s.d (s.bk i).base 0 := by
    rw [Nat.add_zero, List.getD_eq_getElem?_getD, sectL_get _ _ _ (by omega)]
    unfold wdJ
    rw [List.getD_eq_getElem?_getD]
  rw [hx]
  have hin : (s.bk i).base + 1 < s.d.ns := hk.in_ (by omega) (by omega)
  have hr : roomB s.d (s.bk i) = min (((s.bk i).many - 2) * s.d.nw) 4096 := rfl
  have hdl : ((s.d.bits.drop (((s.bk i).base + 2) * s.d.nw)).take (((s.bk i).many - 2) * s.d.nw)).length = ((s.bk i).many - 2) * s.d.nw := dataB_len ho hk (Nat.le_refl _)
  have hA : (wdJ s.d (s.bk i).base 0 ≠ 4294967295 ∨ roomB s.d (s.bk i) < (headH (sectL s.d ((s.bk i).base + 1))).long) → candS s i = none := fun hbad => by
    have hv : (stateB s.d (s.bk i)).valid = false := by
      unfold stateB
      rw [if_pos]
      rcases hbad with h | h
      · exact .inl (decide_eq_true h)
      · exact .inr h
    unfold candS imageB
    rw [if_neg (fun e => by rw [hv] at e; exact absurd e.1 (by decide))]
  have hB : ¬ (wdJ s.d (s.bk i).base 0 ≠ 4294967295 ∨ roomB s.d (s.bk i) < (headH (sectL s.d ((s.bk i).base + 1))).long) → stateB s.d (s.bk i) = headH (sectL s.d ((s.bk i).base + 1)) := fun hgood => by
    unfold stateB
    rw [if_neg]
    · rfl
    · rintro (h | h)
      · exact hgood (.inl (of_decide_eq_true h))
      · exact hgood (.inr h)
  rw [hr] at hA hB
  unfold bankD
  rw [hdl]
  by_cases hb : wdJ s.d (s.bk i).base 0 ≠ 4294967295
  · rw [if_pos (.inl hb), hA (.inl hb)]
  · by_cases hlo : min (((s.bk i).many - 2) * s.d.nw) 4096 < (headH (sectL s.d ((s.bk i).base + 1))).long
    · rw [if_pos (.inr (.inr (by omega))), hA (.inr hlo)]
    · have hst := hB (fun e => by rcases e with e | e; exact hb e; exact hlo e)
      unfold candS imageB
      rw [hst]
      generalize headH (sectL s.d ((s.bk i).base + 1)) = h at *
      obtain ⟨hq, hl, hc, hv, hf, ht⟩ := h
      dsimp only at hlo ⊢
      have htk : ((s.d.bits.drop (((s.bk i).base + 2) * s.d.nw)).take (((s.bk i).many - 2) * s.d.nw)).take hl = dataB s.d (s.bk i) hl := by
        rw [List.take_take]
        unfold dataB
        congr 1
        omega
      rw [htk]
      cases hv with
      | false =>
        rw [if_pos (.inr (.inl rfl)), if_neg (fun e => absurd e.1 (by decide))]
      | true =>
        by_cases hct : hf = false ∧ 3 ≤ ht
        · rw [if_pos (.inr (.inr (.inr (.inr hct))))]
          by_cases hcc : crcL (dataB s.d (s.bk i) hl) = hc
          · rw [if_pos ⟨rfl, hon, hcc⟩]
            dsimp only
            rw [if_pos hct]
          · rw [if_neg (fun e => hcc e.2.2)]
        · rw [if_neg (fun e => by rcases e with e | e | e | e | e; exact hb e; cases e; omega; omega; exact hct e)]
          by_cases hcc : crcL (dataB s.d (s.bk i) hl) = hc
          · rw [if_neg (fun e => e hcc), if_pos ⟨rfl, hon, hcc⟩]
            dsimp only
            rw [if_neg hct]
          · rw [if_pos hcc, if_neg (fun e => hcc e.2.2)]
theorem candsD_cands (s : StS) : candsD (candS s 0) (candS s 1) = candsS s := rfl
/-- With the power on. -/
def onS (s : StS) : StS := { s with d := { s.d with on := true } }
theorem onS_on {s : StS} (h : s.d.on = true) : onS s = s := by
  obtain ⟨⟨ns, nw, lim, bits, worn, on, armed, left, seed, ops⟩, x0, x1, r⟩ := s
  dsimp only at h
  subst h
  rfl
theorem candsS_off {s : StS} (h : s.d.on = false) : candsS s = [] := by
  have hk : ∀ i, candS s i = none := fun i => by
    unfold candS imageB
    rw [if_neg (fun e => by rw [h] at e; exact absurd e.2.1 (by decide))]
  unfold candsS
  rw [hk 0, hk 1]
theorem rcands_any (q c : Nat) (ps : List SecP) (s : StS) (w : World) (ho : SrOk s) (hp : ps.map SecP.l = (List.range s.d.ns).map (sectL s.d)) (hc : s.d.ns ≤ c) (hs : SecsAt w (some ⟨q, 0, none⟩) ps) :
    Calls Try.prog 53 #[.slice (some ⟨q, 0, none⟩) s.d.ns c] w (RetCs w (candsS (onS s))) := by
  have h6 := ho.six
  have hns := ho.ok.ns2
  have hw2 := ho.ok.nw2
  have hlen : ps.length = s.d.ns := by have := congrArg List.length hp; simpa using this
  have hon : SrOk (onS s) := ho.dev (d' := { s.d with on := true }) ⟨ho.ok.ns1, ho.ok.ns2, ho.ok.nw1, ho.ok.nw2, ho.ok.lim2, ho.ok.blen, ho.ok.wlen, ho.ok.bit, ho.ok.wear, ho.ok.seed2, ho.ok.left2⟩ ⟨rfl, rfl, rfl⟩
  have hrow : ∀ x ∈ ps, ∃ j, j < s.d.ns ∧ x.l = sectL s.d j := fun x hx => by
    have : x.l ∈ ps.map SecP.l := List.mem_map_of_mem hx
    rw [hp] at this
    obtain ⟨j, hj, e⟩ := List.mem_map.1 this
    exact ⟨j, List.mem_range.1 hj, e.symm⟩
  have hl : ∀ x ∈ ps, x.l.length = s.d.nw := fun x hx => by
    obtain ⟨j, hj, e⟩ := hrow x hx
    rw [e]
    exact sectL_len _ ho.ok _ hj
  have hlt : ∀ x ∈ ps, ∀ y ∈ x.l, y < 4294967296 := fun x hx => by
    obtain ⟨j, hj, e⟩ := hrow x hx
    rw [e]
    exact sectL_lt ho.ok j
  have part : ∀ (i : Nat), i < 2 → ∀ W, Keep [] w W → Calls Try.prog 93 #[.int .i64 (i : Int), .slice (some ⟨q, 0 + i * (s.d.ns / 2), none⟩) (s.d.ns / 2) (c - i * (s.d.ns / 2))] W (RetC9 W (candS (onS s) i)) := fun i hi W kk => by
    have hil : i * (s.d.ns / 2) + s.d.ns / 2 ≤ s.d.ns := by
      have : i = 0 ∨ i = 1 := by omega
      rcases this with rfl | rfl <;> omega
    have hsub := (hs.keep0 kk).sub (i * (s.d.ns / 2)) (s.d.ns / 2) (by omega) (by omega)
    have hsl : ((ps.drop (i * (s.d.ns / 2))).take (s.d.ns / 2)).length = s.d.ns / 2 := by rw [List.length_take, List.length_drop]; omega
    have hk := hon.bk hi
    have hb : ((onS s).bk i).base = i * (s.d.ns / 2) ∧ ((onS s).bk i).many = s.d.ns / 2 := by
      have : i = 0 ∨ i = 1 := by omega
      rcases this with rfl | rfl
      · exact ⟨by rw [Nat.zero_mul]; exact ho.base0, ho.many0⟩
      · exact ⟨by rw [Nat.one_mul]; exact ho.base1, ho.many1⟩
    have hmp : ((ps.drop (i * (s.d.ns / 2))).take (s.d.ns / 2)).map SecP.l = (List.range ((onS s).bk i).many).map (fun j => sectL (onS s).d (((onS s).bk i).base + j)) := by
      rw [List.map_take, List.map_drop, hp, hb.1, hb.2]
      refine List.ext_getElem? fun k => ?_
      by_cases hkk : k < s.d.ns / 2
      · rw [List.getElem?_take, if_pos hkk, List.getElem?_drop, List.getElem?_map, List.getElem?_map, List.getElem?_range (by omega), List.getElem?_range hkk]
        rfl
      · rw [List.getElem?_take, if_neg hkk, List.getElem?_eq_none (by rw [List.length_map, List.length_range]; omega)]
    have h := rbank_any i s.d.nw (some ⟨q, 0 + i * (s.d.ns / 2), none⟩) (c - i * (s.d.ns / 2)) _ W hsub (by omega) (by omega) ho.words hw2 (fun x hx => hl x (List.mem_of_mem_drop (List.mem_of_mem_take hx))) (fun x hx => hlt x (List.mem_of_mem_drop (List.mem_of_mem_take hx)))
    rw [bankD_cand hon.ok rfl hk hmp, hsl] at h
    exact h
  have p0 := part 0 (by decide)
  have p1 := part 1 (by decide)
  rw [Nat.zero_mul, Nat.add_zero, Nat.sub_zero] at p0
  rw [Nat.one_mul, Nat.zero_add] at p1
  have h := rcands_gen q s.d.ns c (s.d.ns / 2) (candS (onS s) 0) (candS (onS s) 1) w rfl hns (by omega) hc p0 p1
  rw [candsD_cands] at h
  exact h
end Go.Proofs.Yteanpgkonhdbpaa

namespace Go.Proofs.Yteanpgkonhdbpaa
open Go.RowKit

section
variable {bs : Nat} {w wr : World} {g b1 b2 : Nat} {v : StW} {s : StS}
theorem LawS.list_open (h : LawS bs w wr g b1 b2 v s) : Calls Try.prog 45 #[.pointer (some ⟨v.gs, 0, none⟩)] wr fun e w' =>
    ∃ (A : Option Addr) (c : Nat) (ps : List CndP), ps.map CndP.c = candsS s ∧ e = .returned (.slice A (candsS s).length c) ∧ (0 < (candsS s).length → ∃ b o, A = some ⟨b, o, none⟩ ∧ b < w'.heap.size ∧ ∀ k, (hk : k < ps.length) → CellsAt w' b (o + k * 4) (cpCells ps[k])) ∧
    (∀ x ∈ ps, Reads w' 1 x.a x.c.words.length (wordsV x.c.words)) ∧ LawS bs w w' g b1 b2 v s := by
  refine (slist_any v s wr h.at_ h.ok (cands_two s)).mono ?_
  intro e w' hr
  obtain ⟨A, c, ps, h1, h2, h3, h4, k⟩ := hr.opened
  exact ⟨A, c, ps, h1, h2, h3, h4, h.keep0 k⟩
theorem RetCs.opened {w w' : World} {L : List Cnd} {e : Ending} (h : RetCs w L e w') : ∃ (A : Option Addr) (c : Nat) (ps : List CndP), ps.map CndP.c = L ∧ e = .returned (.slice A L.length c) ∧ (0 < L.length → ∃ b o, A = some ⟨b, o, none⟩ ∧ b < w'.heap.size ∧ ∀ k, (hk : k < ps.length) → CellsAt w' b (o + k * 4) (cpCells ps[k])) ∧
    (∀ x ∈ ps, Reads w' 1 x.a x.c.words.length (wordsV x.c.words)) ∧ Keep [] w w' := by
  obtain ⟨A, c, ps, hp, rfl, hr, hws, k⟩ := h
  refine ⟨A, c, ps, hp, rfl, fun h0 => ?_, hws, k⟩
  obtain ⟨b, o, e, hb, hc⟩ := hr.addr h0
  refine ⟨b, o, e, hb, fun k hk j u hu => ?_⟩
  have hj : j < 4 := (List.getElem?_eq_some_iff.1 hu).1
  have := hc (k * 4 + j) u (by rw [cndRow_at ps k hk j hj]; exact hu)
  rw [Nat.add_assoc]
  exact this
theorem LawS.want_any (h : LawS bs w wr g b1 b2 v s) : Calls Try.prog 54 #[.pointer (some ⟨g, 0, none⟩)] wr fun e w' =>
    ∃ q n c, e = .returned (.slice (some ⟨q, 0, none⟩) n c) ∧ LawS bs w w' g b1 b2 v s ∧ Keep [] wr w' ∧ Calls Try.prog 53 #[.slice (some ⟨q, 0, none⟩) n c] w' (RetCs w' (candsS (onS s))) := by
  have hd := h.at_.dev
  rw [h.g.1] at hd
  refine (lsectors_any g v.b1 v.b2 s.d wr hd h.ok.ok).mono ?_
  rintro e w' ⟨q, c, ps, hp, rfl, hc, hs, k⟩
  exact ⟨q, s.d.ns, c, rfl, h.keep0 k, k, rcands_any q c ps s w' h.ok hp hc hs⟩
end
/-- What holds in the law's loop. -/
def TellAt (bs : Nat) (w wr : World) (g b1 b2 : Nat) (p : Value) : Prop := ∃ v s, p = .pointer (some ⟨v.gs, 0, none⟩) ∧ LawS bs w wr g b1 b2 v s
/-- Two rows of the same candidates. -/
structure SameC (W : World) (L : List Cnd) (A B : Option Addr) (ps qs : List CndP) : Prop where
  one : ps.map CndP.c = L
  two : qs.map CndP.c = L
  c1 : 0 < L.length → ∃ b o, A = some ⟨b, o, none⟩ ∧ b < W.heap.size ∧ ∀ k, (hk : k < ps.length) → CellsAt W b (o + k * 4) (cpCells ps[k])
  c2 : 0 < L.length → ∃ b o, B = some ⟨b, o, none⟩ ∧ b < W.heap.size ∧ ∀ k, (hk : k < qs.length) → CellsAt W b (o + k * 4) (cpCells qs[k])
  w1 : ∀ x ∈ ps, Reads W 1 x.a x.c.words.length (wordsV x.c.words)
  w2 : ∀ x ∈ qs, Reads W 1 x.a x.c.words.length (wordsV x.c.words)
theorem SameC.at {W : World} {L : List Cnd} {A B : Option Addr} {ps qs : List CndP} (h : SameC W L A B ps qs) {k : Nat} (hk : k < L.length) : ∃ (cd : Cnd) (b o b' o' : Nat) (a a' : Option Addr) (p p' : Nat), cd ∈ L ∧ A = some ⟨b, o, none⟩ ∧ B = some ⟨b', o', none⟩ ∧
    (∀ W', Keep [] W W' → CellsAt W' b (o + k * 4) (cndV cd a p)) ∧ (∀ W', Keep [] W W' → CellsAt W' b' (o' + k * 4) (cndV cd a' p')) ∧ (∀ W', Keep [] W W' → Reads W' 1 a cd.words.length (wordsV cd.words)) ∧ (∀ W', Keep [] W W' → Reads W' 1 a' cd.words.length (wordsV cd.words)) := by
  obtain ⟨b, o, e1, hb, f1⟩ := h.c1 (by omega)
  obtain ⟨b', o', e2, hb', f2⟩ := h.c2 (by omega)
  have l1 : ps.length = L.length := by rw [← h.one, List.length_map]
  have l2 : qs.length = L.length := by rw [← h.two, List.length_map]
  have k1 : k < ps.length := by omega
  have k2 : k < qs.length := by omega
  have g1 : ps[k].c = L[k] := by
    have := congrArg (fun l => l[k]?) h.one
    simp only [List.getElem?_map] at this
    rw [List.getElem?_eq_getElem k1, List.getElem?_eq_getElem hk] at this
    simpa using this
  have g2 : qs[k].c = L[k] := by
    have := congrArg (fun l => l[k]?) h.two
    simp only [List.getElem?_map] at this
    rw [List.getElem?_eq_getElem k2, List.getElem?_eq_getElem hk] at this
    simpa using this
  have m1 := f1 k k1
  have m2 := f2 k k2
  have r1 := h.w1 _ (List.getElem_mem k1)
  have r2 := h.w2 _ (List.getElem_mem k2)
  unfold cpCells at m1 m2
  rw [g1] at m1 r1
  rw [g2] at m2 r2
  exact ⟨L[k], b, o, b', o', ps[k].a, qs[k].a, ps[k].p, qs[k].p, List.getElem_mem hk, e1, e2, fun W' kk j u hu => (kk.cell (p := ⟨b, o + k * 4 + j, none⟩) hb (by simp)).trans (m1 j u hu), fun W' kk j u hu => (kk.cell (p := ⟨b', o' + k * 4 + j, none⟩) hb' (by simp)).trans (m2 j u hu), fun W' kk => r1.keep0 kk, fun W' kk => r2.keep0 kk⟩
theorem cand_words {s : StS} (ho : s.d.Ok) {c : Cnd} (h : c ∈ candsS s) : c.words.length ≤ 65536 := by
  have hk : ∀ i c, candS s i = some c → c.words.length ≤ 65536 := fun i c h => by
    unfold candS at h
    split at h
    · cases h
    · rename_i l hl
      have h2 : l.length ≤ 65536 := by
        unfold imageB at hl
        split at hl
        · cases hl
          have := ho.ns2
          have := ho.nw2
          unfold dataB
          rw [List.length_take, List.length_drop, ho.blen]
          have : s.d.ns * s.d.nw ≤ 64 * 1024 := Nat.mul_le_mul ho.ns2 ho.nw2
          omega
        · cases hl
      split at h
      · cases h
      · cases h; exact h2
  unfold candsS at h
  cases h0 : candS s 0 with
  | none =>
    cases h1 : candS s 1 with
    | none => rw [h0, h1] at h; cases h
    | some b =>
      rw [h0, h1] at h
      simp only [List.mem_singleton] at h
      subst h
      exact hk 1 _ h1
  | some a =>
    cases h1 : candS s 1 with
    | none =>
      rw [h0, h1] at h
      simp only [List.mem_singleton] at h
      subst h
      exact hk 0 _ h0
    | some b =>
      rw [h0, h1] at h
      have hm : c = b ∨ c = a := by
        dsimp only at h
        split at h
        · simpa using h
        · have : c = a ∨ c = b := by simpa using h
          exact this.symm
      rcases hm with rfl | rfl
      · exact hk 1 _ h1
      · exact hk 0 _ h0

set_option maxRecDepth 100000 in
set_option maxHeartbeats 4000000 in
theorem stells_any (A : Option Addr) (cA : Nat) (img : List Nat) (B : Option Addr) (cB : Nat) (ms : List (SOp × SOpV)) (w : World) (hI : WordsAt w A img) (hm : SOpsAt w B ms) :
    Calls Try.prog 9 #[.slice A img.length cA, .slice B ms.length cB] w fun e w' => e = .returned (.bool true) ∧ Keep [] w w' := by
  have hl := hm.len
  have hli := hI.len
  unfold maxLen at hl hli
  have HGR := Lib.hid (great_any9 B cB ms w hm)
  have HAL := fun W => Lib.hid (alive_any9 W)
  have HMW := Lib.hid hm
  go_enter Try.func9, Try.ntmps9
  go_wp2_with fail
  refine HGR.out.mono ?_
  rintro e w1 ⟨r, rfl, hr, k1⟩
  clear HGR
  cases r
  case true =>
    clear hr hm hI
    go_wp2_with fail
    go_ret
    exact ⟨rfl, k1⟩
  by_cases hi1 : img.length < 1
  · have q1 : decide ((img.length : Int) < 1) = true := decide_eq_true (by omega)
    have r1 : ((img.length : Int) < 1) = True := eq_true (by omega)
    have r2 : (img.length < 1) = True := eq_true (by omega)
    clear hr hm hI
    generalize img.length = il at *
    go_wp2_with fail
    go_ret
    exact ⟨rfl, k1⟩
  have q1 : decide ((img.length : Int) < 1) = false := decide_eq_false (by omega)
  have r1 : ((img.length : Int) < 1) = False := eq_false (by omega)
  have r2 : (img.length < 1) = False := eq_false (by omega)
  by_cases hi2 : 32 < img.length
  · have q3 : decide ((32 : Int) < (img.length : Int)) = true := decide_eq_true (by omega)
    have r3 : ((32 : Int) < (img.length : Int)) = True := eq_true (by omega)
    clear hr hm hI
    generalize img.length = il at *
    go_wp2_with fail
    go_ret
    exact ⟨rfl, k1⟩
  have q3 : decide ((32 : Int) < (img.length : Int)) = false := decide_eq_false (by omega)
  have r3 : ((32 : Int) < (img.length : Int)) = False := eq_false (by omega)
  obtain ⟨hg1, hg2⟩ := hr rfl
  obtain ⟨s0, i1, i2, hrun, hr0, hns, hnw, hop, hx1, hwear, hroom⟩ := start9 (l := img) hI.lt (by omega) (by omega)
  have HST := Lib.hid (lstart_any A img.length cA w1 rfl hI.lt (hI.rows.keep0 k1) (by omega) (by omega) i1 i2)
  have HOK0 := Lib.hid hrun.ok
  have HG1 := Lib.hid hg1
  have HG2 := Lib.hid hg2
  have HK1 := Lib.hid k1
  clear hr hm hI k1 hg1 hg2 i1 i2 hrun hr0 hns hnw hop hx1 hwear hroom hi1 hi2
  generalize img.length = il at *
  go_upto_region 3 with fail
  clear q1 r1 r2 q3 r3
  go_wp2_with fail
  refine HST.out.mono ?_
  rintro e w2 ⟨v0, rfl, hs2, hlo2, k2⟩
  have HL0 : Hid (LawS w1.heap.size w w2 v0.g v0.b1 v0.b2 v0 s0) := ⟨hs2, HOK0.out, ⟨rfl, rfl, rfl⟩, hlo2, HK1.out.size, HK1.out.then k2⟩
  clear hs2 hlo2 k2 HST HK1 HOK0
  generalize w1.heap.size = bs at *
  generalize hg0 : v0.g = g at *
  generalize hgb1 : v0.b1 = b1 at *
  generalize hgb2 : v0.b2 = b2 at *
  clear hg0 hgb1 hgb2
  go_wp2_with fail
  go_loopw [6, 7, 8, 9, 10, 11] (fun v6 v7 v8 v9 v10 v11 wr => ∃ (i : Nat), i ≤ ms.length ∧ v7 = .int .i64 (i : Int) ∧ TellAt bs w wr g b1 b2 v6) (fun _ v7 _ _ _ _ _ => ms.length - (intOf v7).toNat)
  case atStart => exact ⟨0, Nat.zero_le _, rfl, v0, s0, rfl, HL0.out⟩
  case round =>
    obtain ⟨i, hi, rfl, v, s, rfl, hL⟩ := hrel
    have HL := Lib.hid hL
    clear hL HL0
    by_cases hlt : i < ms.length
    · obtain ⟨ba, oa, rfl, hba, hc⟩ := HMW.out.op (by omega)
      have hcs : ∀ W', Keep [] w W' → ∀ k, (hk : k < ms.length) → CellsAt W' ba (oa + k * 4) (sopCells ms[k]) := fun W' kk k hk j u hu => (kk.cell (p := ⟨ba, oa + k * 4 + j, none⟩) hba (by simp)).trans (hc k hk j u hu)
      have HOP : Hid (∀ W', Keep [] wr W' → CellsAt W' ba (oa + i * 4) (sopCells ms[i])) := fun W' kk => hcs W' (HL.out.keep.then kk) i hlt
      have HOA : Hid (SOpAt w ms[i]) := HMW.out.each _ (List.getElem_mem hlt)
      have HOL : Hid (ms[i].1.l.length ≤ 40) := HG2.out _ (List.getElem_mem hlt)
      have HOFF : Hid (0 < ms[i].1.l.length → Off v.all ms[i].2.a) := fun h0 ad ha hmem => by
        obtain ⟨b', o', e', hb', _⟩ := HOA.out.words.addr h0
        rw [e'] at ha
        cases ha
        have h1 := HL.out.lo _ hmem
        have h2 := HL.out.sz
        dsimp only at h1
        omega
      generalize ms[i] = m at *
      obtain ⟨o, x⟩ := m
      dsimp only at HOL HOFF
      have hi0 : (0 : Int) ≤ (i : Int) := by omega
      have hi1 : (i : Int) < (ms.length : Int) := by omega
      clear hcs hc
      go_wp2_with (refine stop_load 100 (.tmp 42) rfl ?_)
      constructor
      refine wpList_load_agg rfl 100 (.tmp 42) rfl rfl (cs := sopCells (o, x)) agg_sop (HOP.out wr (Keep.refl _ _)) ?_
      have hdo := do_any9 v s o x wr HL.out.at_ HL.out.ok (HOA.out.keep0 HL.out.keep) HOFF.out HOL.out
      rw [HL.out.g.1] at hdo
      have HOK : Hid (SrOk (doSr s o).1) := doSr_ok HL.out.ok HOA.out.lt HOA.out.s32 HOA.out.n64
      generalize doSr s o = r2 at *
      obtain ⟨s2, n2⟩ := r2
      dsimp only at hdo HOK
      go_wp2_with fail
      refine hdo.mono ?_
      rintro e w4 ⟨v2, hg2, ha2, rfl, hs4, k4⟩
      have HL4 := Lib.hid (HL.out.do_ HOK.out hg2 ha2 hs4 k4)
      clear hg2 ha2 hs4 k4 hdo HOP HOA HOL HOFF HOK HL
      have hli := HL4.out.list_open
      have HCW : Hid (∀ c ∈ candsS s2, c.words.length ≤ 65536) := fun c hc => cand_words HL4.out.ok.ok hc
      have HON : Hid (s2.d.on = true → onS s2 = s2) := onS_on
      have HOF : Hid (s2.d.on = false → candsS s2 = []) := candsS_off
      have HTW : Hid ((candsS s2).length ≤ 2) := cands_two s2
      go_upto_region 12 with fail
      go_wp2_with fail
      refine hli.mono ?_
      rintro e w5 ⟨A5, c5, ps, hps, rfl, hc5, hw5, hl5⟩
      have HL5 := Lib.hid hl5
      have hwa := hl5.want_any
      have HPS := Lib.hid hps
      have HC5 := Lib.hid hc5
      have HW5 := Lib.hid hw5
      clear hli hl5 hps hc5 hw5 HL4
      go_wp2_with fail
      refine hwa.mono ?_
      rintro e w6 ⟨q6, n6, c6, rfl, hl6, k56, hcd⟩
      clear hwa
      have HL6 := Lib.hid hl6
      clear hl6 HL5
      go_wp2_with fail
      refine hcd.mono ?_
      intro e w7 hr7
      obtain ⟨A7, c7, qs, hqs, rfl, hc7, hw7, k67⟩ := hr7.opened
      have HL7 := Lib.hid (HL6.out.keep0 k67)
      have honc := HL7.out.on_any
      have k57 := k56.then k67
      cases hon : s2.d.on with
      | false =>
        have hLL := HOF.out hon
        rw [hon] at honc
        rw [hLL]
        clear hcd hr7 hqs hc7 hw7 k67 k56 k57 HL6 HPS HC5 HW5 HCW HON HOF HTW hLL hon
        go_upto_region 13 with fail
        go_wp2_with (go_at_call 21; refine honc.mono ?_; rintro e w8 ⟨rfl, rfl⟩)
        go_loopw [10, 11] (fun v10 v11 wx => v10 = .int .i64 0 ∧ wx = w7) (fun _ _ _ => 0)
        case atStart => exact ⟨rfl, rfl⟩
        case round =>
          obtain ⟨rfl, rfl⟩ := hrel
          go_wp2_with fail
          go_roundw
          case rel => exact ⟨i + 1, by omega, by go_num, v2, s2, rfl, HL7.out⟩
          case measure => simp [intOf] <;> omega
      | true =>
        have hoo := HON.out hon
        rw [hoo] at hqs hc7
        rw [hoo]
        rw [hon] at honc
        have HSC : Hid (SameC w7 (candsS s2) A5 A7 ps qs) := ⟨HPS.out, hqs, fun h0 => by
          obtain ⟨b, o, e, hb, f⟩ := HC5.out h0
          exact ⟨b, o, e, Nat.lt_of_lt_of_le hb k57.size, fun k hk j u hu => (k57.cell (p := ⟨b, o + k * 4 + j, none⟩) hb (by simp)).trans (f k hk j u hu)⟩, hc7, fun x hx => (HW5.out x hx).keep0 k57, hw7⟩
        clear hcd hr7 hqs hc7 hw7 k67 k56 k57 HL6 HPS HC5 HW5 HON HOF hoo hon
        generalize candsS s2 = L at *
        go_upto_region 13 with fail
        go_upto_region 17 with (go_at_call 21; refine honc.mono ?_; rintro e w8 ⟨rfl, rfl⟩)
        have hL2 : L.length ≤ 2 := HTW.out
        clear honc
        generalize hLn : L.length = ln at *
        have HLN := Lib.hid hLn
        clear hLn
        go_wp2_with fail
        go_loopw [10, 11] (fun v10 v11 wx => ∃ k : Nat, k ≤ ln ∧ v10 = .int .i64 (k : Int) ∧ Keep [] w7 wx) (fun v10 _ _ => ln - (intOf v10).toNat)
        case atStart => exact ⟨0, Nat.zero_le _, rfl, Keep.refl _ _⟩
        case round =>
          obtain ⟨k, hk, rfl, hK⟩ := hrel
          by_cases hkl : k < ln
          · have p1 : decide ((k : Int) < (ln : Int)) = true := decide_eq_true (by omega)
            have p2 : ((k : Int) < (ln : Int)) = True := eq_true (by omega)
            have p3 : (k < ln) = True := eq_true hkl
            have p4 : (0 : Int) ≤ (k : Int) := by omega
            have p5 : (k : Int) < (ln : Int) := by omega
            obtain ⟨cd, b, o9, b', o', a, a', pp, pp', hcm, rfl, rfl, g1, g2, r1, r2⟩ := HSC.out.at (k := k) (by rw [HLN.out]; exact hkl)
            have hcw := HCW.out cd hcm
            have G1 : Hid (∀ W', Keep [] w7 W' → CellsAt W' b (o9 + k * 4) (cndV cd a pp)) := g1
            have G2 : Hid (∀ W', Keep [] w7 W' → CellsAt W' b' (o' + k * 4) (cndV cd a' pp')) := g2
            have HRW : Hid (∀ W', Keep [] w7 W' → Calls Try.prog 55 #[.slice a cd.words.length pp, .slice a' cd.words.length pp'] W' fun e w' => e = .returned (.bool true) ∧ Keep [] W' w') := fun W' kk => by
              have := srow_any a a' pp pp' cd.words cd.words W' (r1 W' kk) (r2 W' kk) (by omega) (by omega)
              refine this.mono ?_
              rintro e w' ⟨rfl, k9⟩
              exact ⟨by simp, k9⟩
            have HK := Lib.hid hK
            clear g1 g2 r1 r2 hcm hK
            go_upto_region 20 with fail
            clear p1 p2 p3
            go_wp2_with (refine stop_load 106 (.tmp 70) rfl ?_)
            constructor
            refine wpList_load_agg rfl 106 (.tmp 70) rfl rfl (cs := cndV cd a' pp') agg_c9 (G2.out _ HK.out) ?_
            go_wp2_with (refine stop_store 106 (.tmp 11) (.tmp 71) rfl ?_)
            constructor
            refine wpList_store_all rfl 106 (.tmp 11) (.tmp 71) rfl rfl rfl (t := 106) (cs := zeroCnd) (vs := cndV cd a' pp') agg_c9.2 (Blk.new _ _ _) (by simp [cndV, Value.oneCell']) rfl ?_
            intro wy dy ky
            have KY : Keep [] w7 wy := HK.out.then (((Keep.refl [] _).alloc _).trans ky (fun y hy hl => by simp only [List.mem_cons, List.not_mem_nil, or_false] at hy; omega))
            have HKY := Lib.hid KY
            have HDY := Lib.hid dy
            have hF : ∀ W', Keep [] wy W' → W'.cell? ⟨b, o9 + k * 4, none⟩ = some (.int .i64 (cd.bank : Int)) ∧ W'.cell? ⟨b, o9 + k * 4 + 1, none⟩ = some (.int .u32 (cd.seq : Int)) ∧ W'.cell? ⟨b, o9 + k * 4 + 2, none⟩ = some (.bool cd.trial) ∧ W'.cell? ⟨b, o9 + k * 4 + 3, none⟩ = some (.slice a cd.words.length pp) ∧
                W'.cell? ⟨wr.heap.size, 0, none⟩ = some (.int .i64 (cd.bank : Int)) ∧ W'.cell? ⟨wr.heap.size, 1, none⟩ = some (.int .u32 (cd.seq : Int)) ∧ W'.cell? ⟨wr.heap.size, 2, none⟩ = some (.bool cd.trial) ∧ W'.cell? ⟨wr.heap.size, 3, none⟩ = some (.slice a' cd.words.length pp') := fun W' kk =>
              ⟨G1.out W' (HKY.out.then kk) 0 _ rfl, G1.out W' (HKY.out.then kk) 1 _ rfl, G1.out W' (HKY.out.then kk) 2 _ rfl, G1.out W' (HKY.out.then kk) 3 _ rfl, (HDY.out.keep0 kk).cell 0, (HDY.out.keep0 kk).cell 1, (HDY.out.keep0 kk).cell 2, (HDY.out.keep0 kk).cell 3⟩
            clear dy ky KY
            generalize wr.heap.size = B11 at *
            have n1 : ((cd.bank : Int) != (cd.bank : Int)) = false := by simp
            have n2 : ((cd.seq : Int) != (cd.seq : Int)) = false := by simp
            have n3 : (cd.trial != cd.trial) = false := by simp
            generalize cd.words.length = wl at *
            go_wp2_with fail
            refine wp_region_flow (Keep [] wy) rfl (by kernel_rfl) (Keep.refl _ _).drew ?_
            iterate 36 (refine fl_val (v := ?_) (by rfl) ?_ ?_; rotate_left; (intro w' hS; obtain ⟨f0,f1,f2,f3,f4,f5,f6,f7⟩ := hF w' hS; go_simp; with_reducible rfl); simp only [Act.put, List.setIfInBounds_toArray, List.set_cons_zero, List.set_cons_succ])
            refine fl_call (f := 55) (v := .bool true) (by rfl) rfl (by simp only [List.map_toArray, List.map_cons, List.map_nil]; rfl) Try.func55 (by kernel_rfl) (by kernel_rfl) (fun w' hS => ((HRW.out w' (HKY.out.then hS)).mono (fun e w2 hh => ⟨hh.1, hS.then hh.2⟩))) ?_; simp only [Act.put, List.setIfInBounds_toArray, List.set_cons_zero, List.set_cons_succ]
            iterate 2 (refine fl_val (v := ?_) (by rfl) ?_ ?_; rotate_left; (intro w' hS; obtain ⟨f0,f1,f2,f3,f4,f5,f6,f7⟩ := hF w' hS; go_simp; with_reducible rfl); simp only [Act.put, List.setIfInBounds_toArray, List.set_cons_zero, List.set_cons_succ])
            refine fl_nil ?_
            intro wz hS
            have HKZ := Lib.hid (HKY.out.then hS)
            clear hF hS
            go_wp2_with fail
            go_roundw
            case rel => exact ⟨k + 1, by omega, by go_num, HKZ.out⟩
            case measure => simp [intOf] <;> omega
          · obtain rfl : k = ln := by omega
            have p1 : decide ((k : Int) < (k : Int)) = false := decide_eq_false (by omega)
            have HL9 := Lib.hid (HL7.out.keep0 hK)
            clear hkl hK
            go_wp2_with fail
            go_roundw
            case rel => exact ⟨i + 1, by omega, by go_num, v2, s2, rfl, HL9.out⟩
            case measure => simp [intOf] <;> omega
    · have q1 : decide ((i : Int) < (ms.length : Int)) = false := decide_eq_false (by omega)
      have q2 : ((i : Int) < (ms.length : Int)) = False := eq_false (by omega)
      have q3 : (i < ms.length) = False := eq_false hlt
      clear hlt
      go_wp2_with fail
      refine (HAL _).out.mono ?_
      rintro e w8 ⟨rfl, k8⟩
      go_wp2
      go_ret
      exact ⟨rfl, HL.out.keep.then k8⟩
end Go.Proofs.Yteanpgkonhdbpaa
