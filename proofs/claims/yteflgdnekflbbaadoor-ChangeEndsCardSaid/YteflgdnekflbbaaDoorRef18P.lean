/- Ceilings and blocking, by the document (layer 18). Condition: small numbers. The work ahead of a task, responses, a mode, within how many ticks nobody is there: by the document (layer 18). Condition: small numbers. The document's answers on modes, and on within how many ticks nobody is there (layer 18). Condition: small numbers. -/
import Derived.Test.YteflgdnekflbbaaDoorBlock
import Derived.Test.YteflgdnekflbbaaDoorImgP
import Derived.Test.YteflgdnekflbbaaDoorMode
namespace Go.Proofs.YteflgdnekflbbaaDoor
open Go.RowKit

/-- The first task behind k others that is in a set and uses a resource. -/
def ceilFrom (l : List Tsk) (s r : Nat) : Nat → List Tsk → Int
  | _, [] => 16
  | k, t :: ts => if has10 s (k : Int) && decide (0 < t.lon.getD r 0) then (k : Int) else ceilFrom l s r (k + 1) ts
def rceil (l : List Tsk) (s r : Nat) : Int := ceilFrom l s r 0 l
theorem ceilFrom_step (l : List Tsk) (s r k : Nat) (h : k < l.length) : ceilFrom l s r k (l.drop k) = if has10 s (k : Int) && decide (0 < l[k].lon.getD r 0) then (k : Int) else ceilFrom l s r (k + 1) (l.drop (k + 1)) := by
  rw [List.drop_eq_getElem_cons h, ceilFrom]
theorem tsk_lonCell {t : Tsk} {r : Nat} (h8 : t.lon.length = 8) (hr : r < 8) : (tskCells t)[3 + r]? = some (.int .i64 (t.lon.getD r 0)) := by
  have e : (tskInts t)[3 + r]? = some (t.lon.getD r 0) := by
    unfold tskInts
    rw [show 3 + r = r + 1 + 1 + 1 by omega]
    simp only [List.getElem?_cons_succ, List.getD_eq_getElem?_getD, List.getElem?_eq_getElem (show r < t.lon.length by omega), Option.getD_some]
  unfold tskCells iv
  rw [List.getElem?_map, e]; rfl

/-- The longest of those of a set behind a task, among the first k. -/
def rlong (l : List Tsk) (hold r task : Nat) : Nat → Int
  | 0 => 0
  | k + 1 => if task < k ∧ has10 hold (k : Int) = true then max (rlong l hold r task k) ((l.getD k ⟨0, 0, 0, []⟩).lon.getD r 0) else rlong l hold r task k
def rblockTo (l : List Tsk) (hold ceils task : Nat) : Nat → Int
  | 0 => 0
  | r + 1 => rblockTo l hold ceils task r + (if (task : Int) < rceil l ceils r then 0 else rlong l hold r task l.length)
def rblock (l : List Tsk) (hold ceils task : Nat) : Int := rblockTo l hold ceils task 8
theorem rlong_start (l : List Tsk) (hold r task : Nat) : ∀ k, k ≤ task + 1 → rlong l hold r task k = 0
  | 0, _ => rfl
  | k + 1, h => by rw [rlong, if_neg (by omega), rlong_start l hold r task k (by omega)]
theorem rlong_le {x : Img} (h : Small x) (hold r task : Nat) : ∀ k, k ≤ x.tasks.length → 0 ≤ rlong x.tasks hold r task k ∧ rlong x.tasks hold r task k ≤ 4096
  | 0, _ => by simp [rlong]
  | k + 1, hk => by
    have ih := rlong_le h hold r task k (by omega)
    rw [rlong]
    split
    · have hz : 0 ≤ (x.tasks.getD k ⟨0, 0, 0, []⟩).lon.getD r 0 ∧ (x.tasks.getD k ⟨0, 0, 0, []⟩).lon.getD r 0 ≤ 4096 := by
        rw [List.getD_eq_getElem?_getD (l := x.tasks), List.getElem?_eq_getElem (by omega), Option.getD_some, List.getD_eq_getElem?_getD]
        cases hr : x.tasks[k].lon[r]? with
        | none => exact ⟨by simp, by simp⟩
        | some z => exact h.lon _ (List.getElem_mem _) z (List.mem_of_getElem? hr)
      omega
    · exact ih
theorem rblockTo_le {x : Img} (h : Small x) (hold ceils task : Nat) : ∀ r, 0 ≤ rblockTo x.tasks hold ceils task r ∧ rblockTo x.tasks hold ceils task r ≤ 4096 * r
  | 0 => by simp [rblockTo]
  | r + 1 => by
    have ih := rblockTo_le h hold ceils task r
    have h2 := rlong_le h hold r task x.tasks.length (Nat.le_refl _)
    rw [rblockTo]
    push_cast
    split <;> omega

end Go.Proofs.YteflgdnekflbbaaDoor

namespace Go.Proofs.YteflgdnekflbbaaDoor
open Go.RowKit

/-- The work of those of a set among the first k. -/
def aheadK (l : List Tsk) (s : Nat) : Nat → List Trm
  | 0 => []
  | k + 1 => aheadK l s k ++ (if has10 s (k : Int) = true then termAt l k else [])
theorem aheadK_le (l : List Tsk) (s : Nat) : ∀ k, (aheadK l s k).length ≤ k
  | 0 => by simp [aheadK]
  | k + 1 => by
    have h1 := aheadK_le l s k
    have h2 := termAt_le l k
    rw [aheadK, List.length_append]
    split <;> simp <;> omega
/-- Within how many ticks a task's jobs are done, by the document. -/
def rrespM (x : Img) (s hold ceils k : Nat) : Option Int := match x.tasks[k]? with
  | some t => leastR (t.cost + rblock x.tasks hold ceils k) t.ded (allM (aheadK x.tasks s k))
  | none => none
end Go.Proofs.YteflgdnekflbbaaDoor

namespace Go.Proofs.YteflgdnekflbbaaDoor
open Go.RowKit

/-- The first task of a set behind k others that may be late. -/
def rmodeFrom (x : Img) (s : Nat) : Nat → Nat → Int
  | 0, _ => -1
  | j + 1, k => if has10 s (k : Int) && (rrespM x s s s k).isNone then (k : Int) else rmodeFrom x s j (k + 1)
def rmode (x : Img) (s : Nat) : Int := rmodeFrom x s x.tasks.length 0
/-- Round by round, till no more comes than there is time. -/
def rbusyFrom (f : Int → Option Int) : Nat → Int → Option Int
  | 0, _ => none
  | k + 1, w => if w ≤ 65536 then (if (f w).getD 0 ≤ w then some w else rbusyFrom f k ((f w).getD 0)) else none
def rbusyM (x : Img) (s : Nat) : Option Int := rbusyFrom (allM ((aheadK x.tasks s x.tasks.length).map carry)) 65536 1
theorem rbusy_fuel (f : Int → Option Int) : ∀ (k j : Nat) (w : Int), 65536 + 1 - w ≤ k → 65536 + 1 - w ≤ j → rbusyFrom f k w = rbusyFrom f j w
  | 0, 0, _, _, _ => rfl
  | 0, j + 1, w, h1, _ => by rw [rbusyFrom, rbusyFrom, if_neg (by omega)]
  | k + 1, 0, w, _, h2 => by rw [rbusyFrom, rbusyFrom, if_neg (by omega)]
  | k + 1, j + 1, w, h1, h2 => by
    rw [rbusyFrom, rbusyFrom]
    split
    · split
      · rfl
      · exact rbusy_fuel f k j _ (by omega) (by omega)
    · rfl
theorem rbusy_step (f : Int → Option Int) (w : Int) (h : w ≤ 65536) :
    rbusyFrom f (65536 + 1 - w).toNat w = if (f w).getD 0 ≤ w then some w else rbusyFrom f (65536 + 1 - (f w).getD 0).toNat ((f w).getD 0) := by
  rw [show (65536 + 1 - w).toNat = (65536 - w).toNat + 1 by omega, rbusyFrom, if_pos h]
  split
  · rfl
  · exact rbusy_fuel f _ _ _ (by omega) (by omega)
theorem rbusy_end (f : Int → Option Int) (w : Int) (h : 65536 < w) : rbusyFrom f (65536 + 1 - w).toNat w = none := by
  rw [show (65536 + 1 - w).toNat = 0 by omega, rbusyFrom]


end Go.Proofs.YteflgdnekflbbaaDoor
