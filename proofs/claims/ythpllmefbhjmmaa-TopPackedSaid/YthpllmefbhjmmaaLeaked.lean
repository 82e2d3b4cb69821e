/-
  The levels behind a month's leaks: barrel.leaked, the plain part. x: how much leaks of each barrel.
-/
import Derived.Test.YthpllmefbhjmmaaMost
namespace Go.Proofs.Ythpllmefbhjmmaa
open Go.RowKit Go.Maps Plain

/-- The greatest leak, the line, the fullness of a barrel; 0: there is none. -/
def hiOf (l : List Ck) (i : Nat) : Int := match l[i]? with
  | some c => c.hi
  | none => 0
def lineOf (l : List Ck) (i : Nat) : Int := match l[i]? with
  | some c => c.line
  | none => 0
def fullOf (l : List Ck) (i : Nat) : Int := match l[i]? with
  | some c => c.full
  | none => 0
/-- A level behind its leak. -/
def lvl (x f : Nat → Int) (j : Nat) : Int := max 0 (f j - x j)
/-- The levels, the first k of them behind their leaks. -/
def leakF (x f : Nat → Int) (k : Nat) (j : Nat) : Int := if j < k then lvl x f j else f j
/-- The first of k barrels that falls below its line; -1: none does. -/
def fallOf (l : List Ck) (x f : Nat → Int) : Nat → Int
  | 0 => -1
  | k + 1 => if lvl x f k < lineOf l k ∧ fallOf l x f k < 0 then k else fallOf l x f k
theorem leakF_zero (x f : Nat → Int) : leakF x f 0 = f := by funext j; simp [leakF]
theorem leakF_succ (x f : Nat → Int) (k : Nat) : leakF x f (k + 1) = fun j => if j = k then lvl x f k else leakF x f k j := by
  funext j
  unfold leakF
  by_cases e : j = k
  · subst e; simp
  · rw [if_neg e]
    by_cases h : j < k
    · rw [if_pos h, if_pos (by omega)]
    · rw [if_neg h, if_neg (by omega)]
theorem leakF_at (x f : Nat → Int) (k : Nat) : leakF x f k k = f k := by simp [leakF]
theorem fallOf_range (l : List Ck) (x f : Nat → Int) (k : Nat) : -1 ≤ fallOf l x f k ∧ fallOf l x f k < k := by
  induction k with
  | zero => exact ⟨Int.le_refl _, by show (-1 : Int) < 0; decide⟩
  | succ k ih =>
    unfold fallOf
    split <;> omega
theorem hiOf_get {l : List Ck} {i : Nat} (h : i < l.length) : hiOf l i = l[i].hi := by unfold hiOf; rw [List.getElem?_eq_getElem h]
theorem lineOf_get {l : List Ck} {i : Nat} (h : i < l.length) : lineOf l i = l[i].line := by unfold lineOf; rw [List.getElem?_eq_getElem h]
theorem fullOf_get {l : List Ck} {i : Nat} (h : i < l.length) : fullOf l i = l[i].full := by unfold fullOf; rw [List.getElem?_eq_getElem h]
/-- None of the first k falls just if all stand at their lines or above. -/
theorem fall_none (l : List Ck) (x f : Nat → Int) (k : Nat) : fallOf l x f k < 0 ↔ ∀ j, j < k → lineOf l j ≤ lvl x f j := by
  induction k with
  | zero => simp [fallOf]
  | succ k ih =>
    unfold fallOf
    constructor
    · intro h j hj
      split at h
      · omega
      · rename_i hn
        have h1 := ih.1 h
        rcases Nat.lt_or_ge j k with hjk | hjk
        · exact h1 j hjk
        · obtain rfl : j = k := by omega
          omega
    · intro h
      have h1 := ih.2 (fun j hj => h j (by omega))
      have h2 := h k (by omega)
      rw [if_neg (by omega)]
      exact h1

end Go.Proofs.Ythpllmefbhjmmaa
