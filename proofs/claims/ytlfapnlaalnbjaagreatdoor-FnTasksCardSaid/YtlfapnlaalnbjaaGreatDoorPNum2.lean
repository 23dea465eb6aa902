/- Lists of kinds, of instructions, of routines: are they as they should be. No condition. -/
import Derived.Test.YtlfapnlaalnbjaaGreatDoorPNum1
set_option linter.unusedVariables false
set_option linter.unusedSimpArgs false
namespace Go.Ry
open Go.Proofs
abbrev Rou := List Ins × Unit
@[reducible] def tRou : Ty := .pair (.slice tIns) .unit
@[reducible] def tyInt : Ty := .int .i64

/-- What a search loop over a list comes to. -/
theorem any_drop {α : Type} {l : List α} {p : α → Bool} {i : Nat} (h : i < l.length) (d : α) : (l.drop i).any p = (p (l.getD i d) || (l.drop (i + 1)).any p) := by
  rw [drop_getD h d, List.any_cons]
theorem all_drop {α : Type} {l : List α} {p : α → Bool} {i : Nat} (h : i < l.length) (d : α) : (l.drop i).all p = (p (l.getD i d) && (l.drop (i + 1)).all p) := by
  rw [drop_getD h d, List.all_cons]

/-! ### kinds -/
def kindsOK (l : List Int) : Bool := decide (l.length ≤ 8) && l.all isKind
/-! ### instructions -/
def insOK (x : Ins) : Bool := instrOK x.1 x.2.1
def codeOK (l : List Ins) : Bool := decide (l.length ≤ 40) && l.all insOK
/-! ### routines -/
def rouOK (r : Rou) : Bool := codeOK r.1
/-- Lists of lists no longer than that. -/
def small (l : List Rou) : Prop := l.length ≤ 1048576 ∧ ∀ r ∈ l, r.1.length ≤ 1048576
theorem small.at {l : List Rou} (h : small l) (i : Nat) : (l.getD i (([] : List Ins), ())).1.length ≤ 1048576 := by
  by_cases hi : i < l.length
  · rw [List.getD_eq_getElem?_getD, List.getElem?_eq_getElem hi]
    exact h.2 _ (List.getElem_mem hi)
  · rw [List.getD_eq_getElem?_getD, List.getElem?_eq_none (by omega)]
    simp
def rousOK (l : List Rou) : Bool := decide (l.length ≤ 6) && l.all rouOK
def isVal (n : Int) : Bool := within n (-2147483648) 2147483647
end Go.Ry
