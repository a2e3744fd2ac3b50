/- The image of a text: plain; line by line. No condition. -/
import Derived.Test.YtoepkhkaifgddaaSrcT
import Derived.Test.YtoepkhkaifgddaaStParseW
namespace Go.Proofs.Ytoepkhkaifgddaa
open Go.RowKit

def numP (ps : List ByteArray) (i : Nat) : Option Int := match ps[i]? with | none => none | some p => if (readP (bytesOf p)).2 = 0 then some (readP (bytesOf p)).1 else none
def pairP (sg : Nat) (s : ByteArray) (l : List Int) : Option (List Int) :=
  if (splitB s sg).2.2 = true then
    (if (readP (bytesOf (splitB s sg).1)).2 = 0 ∧ (readP (bytesOf (splitB s sg).2.1)).2 = 0 ∧ (readP (bytesOf (splitB s sg).1)).1 < (l.length : Int) ∧ (readP (bytesOf (splitB s sg).2.1)).1 ≠ 0 ∧ l.getD (readP (bytesOf (splitB s sg).1)).1.toNat 0 = 0
      then some (l.set (readP (bytesOf (splitB s sg).1)).1.toNat (readP (bytesOf (splitB s sg).2.1)).1) else none)
  else none
def pairsP (sg : Nat) : List ByteArray → List Int → Option (List Int)
  | [], l => some l
  | p :: ps, l => (pairP sg p l).bind (pairsP sg ps)
def taskP (ps : List ByteArray) : Option Tsk := (numP ps 1).bind fun a => (numP ps 2).bind fun b => (numP ps 3).bind fun c => (pairsP 58 (ps.drop 4) (List.replicate 8 0)).map fun l => ⟨a, b, c, l⟩
def bitP (p : ByteArray) (s : Nat) : Option Nat :=
  if (readP (bytesOf p)).2 = 0 ∧ (readP (bytesOf p)).1 ≤ 31 ∧ s.testBit (readP (bytesOf p)).1.toNat = false then some (s ||| 2 ^ (readP (bytesOf p)).1.toNat) else none
def bitsP : List ByteArray → Nat → Option Nat
  | [], s => some s
  | p :: ps, s => (bitP p s).bind (bitsP ps)
/-- Which of three words a piece is; 0: none. -/
def wordP (W : Int → List UInt8) (p : ByteArray) : Int := if bytesOf p = W 1 then 1 else if bytesOf p = W 2 then 2 else if bytesOf p = W 3 then 3 else 0
def queueP (ps : List ByteArray) : Option Que := if ps.length = 3 ∧ wordP polW (ps.getD 2 { data := #[] }) ≠ 0 then (numP ps 1).map fun n => ⟨n, wordP polW (ps.getD 2 { data := #[] })⟩ else none
def edgePairs : List ByteArray → List Int → List Int → Option (List Int × List Int)
  | [], m, o => some (m, o)
  | p :: ps, m, o => match pairP 62 p m with
    | some m' => edgePairs ps m' o
    | none => match pairP 58 p o with
      | some o' => edgePairs ps m o'
      | none => none
def edgeP (ps : List ByteArray) : Option Edg := (numP ps 1).bind fun a => (numP ps 2).bind fun b =>
  if 4 ≤ ps.length ∧ wordP proW (ps.getD 3 { data := #[] }) ≠ 0 then (edgePairs (ps.drop 4) (List.replicate 4 0) (List.replicate 16 0)).map fun mo => ⟨a, b, wordP proW (ps.getD 3 { data := #[] }), mo.2, mo.1⟩ else none
def resP (ps : List ByteArray) : Option Int := if ps.length = 2 then numP ps 1 else none
/-- A queue more of the last mode. -/
def addQ : List Mdd → Que → List Mdd
  | [], _ => []
  | [m], q => [⟨m.set, m.qs ++ [q]⟩]
  | m :: n :: l, q => m :: addQ (n :: l) q
def wRes : List UInt8 := [114, 101, 115]
def wTask : List UInt8 := [116, 97, 115, 107]
def wMode : List UInt8 := [109, 111, 100, 101]
def wQueue : List UInt8 := [113, 117, 101, 117, 101]
def wEdge : List UInt8 := [101, 100, 103, 101]
def lineP (x : Img) (ps : List ByteArray) (first : Bool) : Option Img :=
  let w := bytesOf (ps.getD 0 { data := #[] })
  if first ≠ decide (w = wRes) then none
  else if w = wRes then (resP ps).map fun n => { x with res := n }
  else if w = wTask then (taskP ps).map fun t => { x with tasks := x.tasks ++ [t] }
  else if w = wMode then (bitsP (ps.drop 1) 0).map fun s => { x with modes := x.modes ++ [⟨s, []⟩] }
  else if w = wQueue then (if x.modes = [] then none else (queueP ps).map fun q => { x with modes := addQ x.modes q })
  else if w = wEdge then (edgeP ps).map fun e => { x with edges := x.edges ++ [e] }
  else none
def img0 : Img := ⟨0, [], [], []⟩
def srStep (st : Img × Bool) (x : NumStr) : Except Int (Img × Bool) :=
  if piecesOf x.2 = [] then .ok st else match lineP st.1 (piecesOf x.2) st.2 with | some y => .ok (y, false) | none => .error x.1
def srFold (st : Img × Bool) : List NumStr → Except Int (Img × Bool)
  | [] => .ok st
  | x :: l => (srStep st x).bind (fun a => srFold a l)
def srcP (text : ByteArray) : Img × Int × Int :=
  if 65536 < text.size then (img0, 0, 120)
  else match srFold (img0, true) (number 1 (linesT text)) with
    | .ok (x, false) => (x, 0, 0)
    | .ok (_, true) => (img0, 0, 120)
    | .error n => (img0, n, 120)

theorem readP_range (l : List UInt8) : 0 ≤ (readP l).1 ∧ (readP l).1 ≤ 2147483647 := by
  unfold readP
  split
  · exact ⟨Int.le_refl _, by decide⟩
  · split
    · rename_i h
      split
      · exact ⟨Int.le_refl _, by decide⟩
      · exact ⟨valI_pos l h, by show valI l ≤ _; omega⟩
    · exact ⟨Int.le_refl _, by decide⟩
theorem numP_range {ps : List ByteArray} {i : Nat} : 0 ≤ (numP ps i).getD 0 ∧ (numP ps i).getD 0 ≤ 2147483647 := by
  unfold numP
  split
  · exact ⟨Int.le_refl _, by decide⟩
  · rename_i p _
    split
    · exact readP_range _
    · exact ⟨Int.le_refl _, by decide⟩
theorem pairP_len {sg : Nat} {s : ByteArray} {l m : List Int} (h : pairP sg s l = some m) : m.length = l.length := by
  unfold pairP at h
  split at h
  · split at h
    · cases h; simp
    · cases h
  · cases h
theorem pairsP_len {sg : Nat} : ∀ {ps : List ByteArray} {l m : List Int}, pairsP sg ps l = some m → m.length = l.length
  | [], l, m, h => by cases h; rfl
  | p :: ps, l, m, h => by
    rw [pairsP] at h
    obtain ⟨a, h1, h2⟩ := Option.bind_eq_some_iff.1 h
    rw [pairsP_len h2, pairP_len h1]
theorem edgePairs_len : ∀ {ps : List ByteArray} {m o : List Int} {r : List Int × List Int}, edgePairs ps m o = some r → r.1.length = m.length ∧ r.2.length = o.length
  | [], m, o, r, h => by cases h; exact ⟨rfl, rfl⟩
  | p :: ps, m, o, r, h => by
    rw [edgePairs] at h
    split at h
    · rename_i m' hm
      have := edgePairs_len h
      rw [pairP_len hm] at this
      exact this
    · split at h
      · rename_i o' ho
        have := edgePairs_len h
        rw [pairP_len ho] at this
        exact this
      · cases h
theorem bitP_lt {p : ByteArray} {s t : Nat} (hs : s < 4294967296) (h : bitP p s = some t) : t < 4294967296 := by
  unfold bitP at h
  split at h
  · rename_i hc
    cases h
    have h1 : 2 ^ (readP (bytesOf p)).1.toNat < 2 ^ 32 := Nat.pow_lt_pow_right (by decide) (by have := hc.2.1; omega)
    exact Nat.or_lt_two_pow (n := 32) hs h1
  · cases h
theorem bitsP_lt : ∀ {ps : List ByteArray} {s t : Nat}, s < 4294967296 → bitsP ps s = some t → t < 4294967296
  | [], s, t, hs, h => by cases h; exact hs
  | p :: ps, s, t, hs, h => by
    rw [bitsP] at h
    obtain ⟨a, h1, h2⟩ := Option.bind_eq_some_iff.1 h
    exact bitsP_lt (bitP_lt hs h1) h2
theorem addQ_eq : ∀ (l : List Mdd) (m : Mdd) (q : Que), addQ (l ++ [m]) q = l ++ [⟨m.set, m.qs ++ [q]⟩]
  | [], m, q => rfl
  | [a], m, q => rfl
  | a :: b :: l, m, q => by
    show addQ (a :: b :: (l ++ [m])) q = _
    rw [addQ]
    exact congrArg (a :: ·) (addQ_eq (b :: l) m q)
theorem taskP_ok {ps : List ByteArray} {t : Tsk} (h : taskP ps = some t) : t.lon.length = 8 := by
  unfold taskP at h
  obtain ⟨a, _, h⟩ := Option.bind_eq_some_iff.1 h
  obtain ⟨b, _, h⟩ := Option.bind_eq_some_iff.1 h
  obtain ⟨c, _, h⟩ := Option.bind_eq_some_iff.1 h
  obtain ⟨l, h1, rfl⟩ := Option.map_eq_some_iff.1 h
  have := pairsP_len h1
  simpa using this
theorem edgeP_ok {ps : List ByteArray} {t : Edg} (h : edgeP ps = some t) : t.offs.length = 16 ∧ t.mp.length = 4 := by
  unfold edgeP at h
  obtain ⟨a, _, h⟩ := Option.bind_eq_some_iff.1 h
  obtain ⟨b, _, h⟩ := Option.bind_eq_some_iff.1 h
  split at h
  · obtain ⟨l, h1, rfl⟩ := Option.map_eq_some_iff.1 h
    have := edgePairs_len h1
    simp at this
    exact ⟨this.2, this.1⟩
  · cases h
theorem lineP_ok {x y : Img} {ps : List ByteArray} {first : Bool} (hx : x.Ok) (h : lineP x ps first = some y) : y.Ok := by
  unfold lineP at h
  simp only at h
  split at h
  · cases h
  · split at h
    · obtain ⟨n, _, rfl⟩ := Option.map_eq_some_iff.1 h
      exact ⟨hx.lon, hx.offs, hx.mp, hx.set⟩
    · split at h
      · obtain ⟨t, ht, rfl⟩ := Option.map_eq_some_iff.1 h
        refine ⟨fun a ha => ?_, hx.offs, hx.mp, hx.set⟩
        rcases List.mem_append.1 ha with ha | ha
        · exact hx.lon a ha
        · simp at ha; subst ha; exact taskP_ok ht
      · split at h
        · obtain ⟨s, hs, rfl⟩ := Option.map_eq_some_iff.1 h
          refine ⟨hx.lon, hx.offs, hx.mp, fun a ha => ?_⟩
          rcases List.mem_append.1 ha with ha | ha
          · exact hx.set a ha
          · simp at ha; subst ha; exact bitsP_lt (by decide) hs
        · split at h
          · split at h
            · cases h
            · rename_i hne
              obtain ⟨q, _, rfl⟩ := Option.map_eq_some_iff.1 h
              refine ⟨hx.lon, hx.offs, hx.mp, fun a ha => ?_⟩
              obtain ⟨l, m, hl⟩ : ∃ l m, x.modes = l ++ [m] := ⟨_, _, (List.dropLast_concat_getLast hne).symm⟩
              simp only at ha
              rw [hl, addQ_eq] at ha
              rcases List.mem_append.1 ha with ha | ha
              · exact hx.set a (by rw [hl]; simp [ha])
              · simp at ha
                subst ha
                exact hx.set m (by rw [hl]; simp)
          · split at h
            · obtain ⟨e, he, rfl⟩ := Option.map_eq_some_iff.1 h
              refine ⟨hx.lon, fun a ha => ?_, fun a ha => ?_, hx.set⟩
              · rcases List.mem_append.1 ha with ha | ha
                · exact hx.offs a ha
                · simp at ha; subst ha; exact (edgeP_ok he).1
              · rcases List.mem_append.1 ha with ha | ha
                · exact hx.mp a ha
                · simp at ha; subst ha; exact (edgeP_ok he).2
            · cases h
end Go.Proofs.Ytoepkhkaifgddaa
