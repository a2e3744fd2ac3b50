/- What holds behind each call of a journal's plays, in plain words. No condition. -/
import Derived.Test.YteanpgkonhdbpaaJrTherP
import Derived.Test.YteanpgkonhdbpaaJrLaw
import Derived.Test.YteanpgkonhdbpaaFlashOk
namespace Go.Proofs.Yteanpgkonhdbpaa
open Go.RowKit

theorem ownW_zero (d : Dev) : ownW d 0 = wdJ d := by
  funext s q
  unfold ownW
  rw [Nat.zero_add]
/-- The device, the journal, what was put in, what surely was, and how often it was cut off; behind so many calls. -/
structure JW (s n i : Nat) (d : Dev) (j : JS) (put sure : List (Nat × Nat)) (cut : Nat) : Prop where
  ok_ : d.Ok
  ns : d.ns = s
  nw : d.nw = n
  lim : d.lim = 500
  wear : ∀ t, d.worn.getD t 0 ≤ i
  on_ : d.on = true → j = jsOf d
  base : j.base = 0
  many : j.many = s
  sec : j.sector < s
  at_ : j.at_ ≤ 1024 + i
  next : j.next ≤ put.length + 1
  nums : ∀ e ∈ put, e.1 ≤ put.length
  plen : put.length ≤ i
  slen : sure.length ≤ i
  clen : cut ≤ i
  inv : JInv (wdJ d) s (n / 4) put sure cut

theorem opened_js (d : Dev) : openedJ d 0 d.ns = jsOf d := by
  unfold openedJ jsOf
  rw [ownW_zero]
theorem jsOf_bounds {d : Dev} (h : d.Ok) {put sure : List (Nat × Nat)} {cut : Nat} (hI : JInv (wdJ d) d.ns (d.nw / 4) put sure cut) : (jsOf d).sector < d.ns ∧ (jsOf d).at_ ≤ 1024 := by
  obtain ⟨R, hr⟩ := hI.ring
  have h1 := hr.c_lt
  have h2 := hr.u_le
  have h3 := h.nw2
  refine ⟨h1, ?_⟩
  show (openJ (wdJ d) d.ns (d.nw / 4)).2.2 ≤ 1024
  omega
theorem jsOf_next {d : Dev} {put sure : List (Nat × Nat)} {cut : Nat} (hI : JInv (wdJ d) d.ns (d.nw / 4) put sure cut) (hp : ∀ e ∈ put, e.1 ≤ put.length) : (jsOf d).next ≤ put.length + 1 := by
  show (foldJ (wdJ d) (d.nw / 4) d.ns).1 ≤ put.length + 1
  rcases (foundJ (wdJ d) (d.nw / 4) d.ns).at_ with ⟨h, _⟩ | ⟨a, e, h1, h2, _, h3, h4⟩
  · rw [h]; exact Nat.le_add_left _ _
  · rw [h4]
    exact Nat.succ_le_succ (hp e (hI.put_ _ _ _ h1 h2 h3))
theorem JW.new {s n : Nat} (h1 : 2 ≤ s) (h2 : s ≤ 64) (h3 : 4 ≤ n) (h4 : n ≤ 100) : JW s n 0 (newD s n 500) (openedJ (newD s n 500) 0 s) [] [] 0 := by
  have hok : (newD s n 500).Ok := newD_ok s n 500 (by omega) h2 (by omega) (by omega) (by decide)
  have hwd : ∀ t q, t < s → q < n → wdJ (newD s n 500) t q = 4294967295 := fun t q ht hq => by
    rw [← ownW_zero]
    exact fresh_wd (by omega) hq
  have hent : ∀ t a, t < s → a < n / 4 → entJ (wdJ (newD s n 500)) t a = none := fun t a ht ha => by
    rw [← ownW_zero]
    exact fresh_ent (by omega) ha
  have hop : openedJ (newD s n 500) 0 s = ⟨0, s, 0, 0, 1⟩ := fresh_opened (by omega) (by omega) h3
  have hjs : openedJ (newD s n 500) 0 s = jsOf (newD s n 500) := opened_js _
  have hI : JInv (wdJ (newD s n 500)) s (n / 4) [] [] 0 := by
    refine ⟨h1, by omega, fun t q ht hq => ?_, fun t a ht ha => ?_, fun t a e ht ha he => ?_, fun t a e t' a' e' ht ha _ _ he _ _ => ?_, [], ?_⟩
    · rw [hwd t q ht (by omega)]; decide
    · rw [hwd t _ ht (by omega), hwd t _ ht (by omega), hwd t _ ht (by omega), hwd t _ ht (by omega)]; decide
    · rw [hent t a ht ha] at he; cases he
    · rw [hent t a ht ha] at he; cases he
    · have e1 : (openJ (wdJ (newD s n 500)) s (n / 4)).2.1 = 0 := by
        have := congrArg JS.sector (hjs.symm.trans hop)
        exact this
      have e2 : (openJ (wdJ (newD s n 500)) s (n / 4)).2.2 = 0 := by
        have := congrArg JS.at_ (hjs.symm.trans hop)
        exact this
      rw [e1, e2]
      refine ⟨by omega, Nat.zero_le _, fun a _ ha => ?_, rfl, Nat.le_refl _, fun q e _ h => by simp at h⟩
      unfold blank4
      rw [hwd 0 _ (by omega) (by omega), hwd 0 _ (by omega) (by omega), hwd 0 _ (by omega) (by omega), hwd 0 _ (by omega) (by omega)]
      rfl
  refine ⟨hok, rfl, rfl, rfl, fun t => ?_, fun _ => hjs, by rw [hop], by rw [hop], by rw [hop]; show 0 < s; omega, by rw [hop]; exact Nat.zero_le _, by rw [hop]; exact Nat.le_refl _, fun e he => (by cases he), Nat.le_refl _, Nat.le_refl _, Nat.le_refl _, hI⟩
  show (List.replicate s 0).getD t 0 ≤ 0
  rw [List.getD_eq_getElem?_getD, List.getElem?_replicate]
  split <;> exact Nat.le_refl _
theorem JW.arm {s n i : Nat} {d : Dev} {j : JS} {put sure : List (Nat × Nat)} {cut : Nat} (h : JW s n i d j put sure cut) (m : Int) (sd : Nat) (hs : sd < 4294967296) (hm : m ≤ 9223372036854775807) : JW s n (i + 1) (armS d m sd) j put sure cut :=
  ⟨armS_ok h.ok_ m sd hs hm, h.ns, h.nw, h.lim, fun t => Nat.le_succ_of_le (h.wear t), h.on_, h.base, h.many, h.sec, Nat.le_succ_of_le h.at_, h.next, h.nums, Nat.le_succ_of_le h.plen, Nat.le_succ_of_le h.slen, Nat.le_succ_of_le h.clen, h.inv⟩
theorem JW.open {s n i : Nat} {d : Dev} {j : JS} {put sure : List (Nat × Nat)} {cut : Nat} (h : JW s n i d j put sure cut) : JW s n (i + 1) (powerS d true) (openedJ (powerS d true) 0 s) put sure cut := by
  have hok : (powerS d true).Ok := powerS_ok h.ok_ true
  have hns : (powerS d true).ns = s := h.ns
  have hnw : (powerS d true).nw = n := h.nw
  have hjs : openedJ (powerS d true) 0 s = jsOf (powerS d true) := by rw [← hns]; exact opened_js _
  have hI : JInv (wdJ (powerS d true)) (powerS d true).ns ((powerS d true).nw / 4) put sure cut := by rw [hns, hnw]; exact h.inv
  have hb := jsOf_bounds hok hI
  refine ⟨hok, hns, hnw, h.lim, fun t => Nat.le_succ_of_le (h.wear t), fun _ => hjs, rfl, rfl, ?_, ?_, ?_, h.nums, Nat.le_succ_of_le h.plen, Nat.le_succ_of_le h.slen, Nat.le_succ_of_le h.clen, h.inv⟩
  · rw [hjs]; have := hb.1; rw [hns] at this; exact this
  · rw [hjs]; have := hb.2; omega
  · rw [hjs]; exact jsOf_next hI h.nums
theorem add_place (d : Dev) (j : JS) (w : Nat) : ((addJ d j w).2.1.sector = j.sector ∨ (addJ d j w).2.1.sector = (j.sector + 1) % j.many) ∧ (addJ d j w).2.1.at_ ≤ j.at_ + 1 := by
  have hf : ∀ (d : Dev) (j : JS), (fillJ d j w).2.1.sector = j.sector ∧ (fillJ d j w).2.1.at_ = j.at_ + 1 := fun d j => by
    unfold fillJ
    dsimp only
    split <;> exact ⟨rfl, rfl⟩
  unfold addJ
  split
  · exact ⟨.inl rfl, Nat.le_succ _⟩
  · split
    · split
      · obtain ⟨a, b⟩ := hf (eraseS d ((j.base + (j.sector + 1) % j.many : Nat) : Int)).1 (turnJ j)
        refine ⟨.inr a, ?_⟩
        rw [b]
        show 0 + 1 ≤ _
        omega
      · exact ⟨.inl rfl, Nat.le_succ _⟩
    · obtain ⟨a, b⟩ := hf d j
      exact ⟨.inl a, by rw [b]; exact Nat.le_refl _⟩
theorem JW.add {s n i : Nat} {d : Dev} {j : JS} {put sure : List (Nat × Nat)} {cut : Nat} (h : JW s n i d j put sure cut) (hi : i < 100) {w : Nat} (hw : w < 4294967296) :
    (addJ d j w).2.2 = 0 ∧ (addJ d j w).1.on = true ∧ JW s n (i + 1) (addJ d j w).1 (addJ d j w).2.1 (put ++ [(j.next, w)]) (sure ++ [(j.next, w)]) cut ∨
    (addJ d j w).2.2 ≠ 0 ∧ (addJ d j w).1.on = false ∧ JW s n (i + 1) (addJ d j w).1 (addJ d j w).2.1 (put ++ [(j.next, w)]) sure (cut + 1) := by
  have hI : JInv (wdJ d) d.ns (d.nw / 4) put sure cut := by rw [h.ns, h.nw]; exact h.inv
  have hnx := h.next
  have hpl := h.plen
  have hr : AddR d j.next w put sure cut (addJ d j w).1 (addJ d j w).2.1 (addJ d j w).2.2 := by
    cases hon : d.on with
    | true =>
      have hj := h.on_ hon
      have := add_on h.ok_ hon hI hw (by rw [← hj]; omega) (fun t _ => by rw [h.lim]; have := h.wear t; omega)
      rw [← hj] at this
      exact this
    | false => exact add_off h.ok_ hon hI h.base (by rw [h.many, h.ns]) (by omega)
  obtain ⟨o1, o2, o3, o4, o5, o6, o7⟩ := hr
  have hpc := add_place d j w
  have h1 : (addJ d j w).1.ns = s := by rw [← h.ns]; exact o2.ns
  have h2 : (addJ d j w).1.nw = n := by rw [← h.nw]; exact o2.nw
  have h3 : (addJ d j w).1.lim = 500 := by rw [← h.lim]; exact o2.lim
  have h4 : ∀ t, (addJ d j w).1.worn.getD t 0 ≤ i + 1 := fun t => by have := o3 t; have := h.wear t; omega
  have h5 : (addJ d j w).2.1.sector < s := by
    have hsec := h.sec
    rcases hpc.1 with e | e
    · rw [e]; exact hsec
    · rw [e, h.many]; exact Nat.mod_lt _ (by omega)
  have h6 : (addJ d j w).2.1.at_ ≤ 1024 + (i + 1) := by have := hpc.2; have := h.at_; omega
  have h7 : (addJ d j w).2.1.next ≤ (put ++ [(j.next, w)]).length + 1 := by rw [List.length_append]; show _ ≤ put.length + 1 + 1; omega
  have h8 : ∀ e ∈ put ++ [(j.next, w)], e.1 ≤ (put ++ [(j.next, w)]).length := fun e he => by
    rw [List.length_append]
    show e.1 ≤ put.length + 1
    rcases List.mem_append.1 he with he | he
    · exact Nat.le_succ_of_le (h.nums e he)
    · rw [List.mem_singleton] at he
      rw [he]
      exact hnx
  have h9 : (put ++ [(j.next, w)]).length ≤ i + 1 := by rw [List.length_append]; show put.length + 1 ≤ _; omega
  have hsl := h.slen
  have hcl := h.clen
  rw [h.ns, h.nw] at o7
  rcases o7 with ⟨e0, eon, ej, eI⟩ | ⟨e0, eoff, eI⟩
  · exact .inl ⟨e0, eon, o1, h1, h2, h3, h4, fun _ => ej, o5, by rw [o6, h.ns], h5, h6, h7, h8, h9, by rw [List.length_append]; show sure.length + 1 ≤ _; omega, Nat.le_succ_of_le hcl, eI⟩
  · exact .inr ⟨e0, eoff, o1, h1, h2, h3, h4, fun hh => (by rw [eoff] at hh; cases hh), o5, by rw [o6, h.ns], h5, h6, h7, h8, h9, Nat.le_succ_of_le hsl, by omega, eI⟩
/-- The entries that are there. -/
def rowJ (s n : Nat) (d : Dev) : List (Nat × Nat) := sortE (entsJ (ownW d 0) s (n / 4))
theorem rowJ_len (s n : Nat) (d : Dev) (h : s * n ≤ 400) : (rowJ s n d).length ≤ 400 := by
  unfold rowJ
  rw [← accJ_end]
  have h1 := accJ_len (ownW d 0) (n / 4) s 0
  have h2 : s * (n / 4) ≤ s * n := Nat.mul_le_mul_left s (Nat.div_le_self _ _)
  omega
theorem JW.kept {s n i : Nat} {d : Dev} {j : JS} {put sure : List (Nat × Nat)} {cut : Nat} (h : JW s n i d j put sure cut) : ∀ x ∈ rowJ s n d, x ∈ put := fun x hx => by
  unfold rowJ at hx
  rw [ownW_zero] at hx
  obtain ⟨t, a, h1, h2, h3⟩ := mem_entsJ.1 (sort_mem hx)
  exact h.inv.put_ t a x h1 h2 h3
theorem JW.last {s n i : Nat} {d : Dev} {j : JS} {put sure : List (Nat × Nat)} {cut : Nat} (h : JW s n i d j put sure cut) : ∀ k, (hk : k < sure.length) → (sure.length : Int) - ((((s - 1) * (n / 4) : Nat) : Int) - (cut : Int)) ≤ (k : Int) → sure[k] ∈ rowJ s n d := fun k hk hl => by
  obtain ⟨t, a, h1, h2, h3⟩ := h.inv.last hk (by omega)
  unfold rowJ
  rw [ownW_zero]
  refine sort_all (mem_entsJ.2 ⟨t, a, h1, h2, h3⟩) (fun y hy he => ?_)
  obtain ⟨t', a', g1, g2, g3⟩ := mem_entsJ.1 hy
  obtain ⟨rfl, rfl⟩ := h.inv.apart _ _ _ _ _ _ g1 g2 h1 h2 g3 h3 he
  rw [h3] at g3
  exact (Option.some.inj g3).symm
end Go.Proofs.Yteanpgkonhdbpaa
