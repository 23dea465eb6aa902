/- Marks of lists whose elements have slices of their own: what is of no type. No condition. -/
import Derived.Test.YtlfapnlaalnbjaaGreatPNum1
set_option linter.unusedVariables false
set_option linter.unusedSimpArgs false
namespace Go.Ry
open Go.Proofs

/-- Marked from k on: each element by f, which comes c further. -/
def mkL {α : Type} (f : Int → α → α) (c : α → Int) : Int → List α → List α
  | _, [] => []
  | k, x :: l => f k x :: mkL f c (k + c x) l
def cnL {α : Type} (c : α → Int) : List α → Int
  | [] => 0
  | x :: l => c x + cnL c l
theorem mkL_len {α : Type} {f : Int → α → α} {c : α → Int} : ∀ {l : List α} {k : Int}, (mkL f c k l).length = l.length
  | [], _ => rfl
  | x :: l, k => by simp [mkL, mkL_len (l := l)]
theorem mkL_snoc {α : Type} {f : Int → α → α} {c : α → Int} : ∀ {l : List α} {k : Int} {x : α}, mkL f c k (l ++ [x]) = mkL f c k l ++ [f (k + cnL c l) x]
  | [], k, x => by simp [mkL, cnL]
  | y :: l, k, x => by
    simp only [List.cons_append, mkL, cnL, mkL_snoc (l := l), Int.add_assoc]
theorem cnL_snoc {α : Type} {c : α → Int} : ∀ {l : List α} {x : α}, cnL c (l ++ [x]) = cnL c l + c x
  | [], x => by simp [cnL]
  | y :: l, x => by
    simp only [List.cons_append, cnL, cnL_snoc (l := l), Int.add_assoc]
theorem cnL_le {α : Type} {c : α → Int} {B : Int} : ∀ {l : List α}, (∀ x ∈ l, 0 ≤ c x ∧ c x ≤ B) → 0 ≤ cnL c l ∧ cnL c l ≤ B * l.length
  | [], _ => by simp [cnL]
  | x :: l, h => by
    have h1 := h x List.mem_cons_self
    have h2 := cnL_le (l := l) fun y hy => h y (List.mem_cons_of_mem _ hy)
    simp only [cnL, List.length_cons, Int.natCast_add, Int.mul_add]
    omega
theorem take_snoc {α : Type} {l : List α} {i : Nat} (hi : i < l.length) (d : α) : l.take (i + 1) = l.take i ++ [l.getD i d] := take_succ_getD hi d
def mkTo {α : Type} (f : Int → α → α) (c : α → Int) (n : Int) (l : List α) (i : Nat) : List α := mkL f c n (l.take i) ++ l.drop i
theorem mkTo_zero {α : Type} {f : Int → α → α} {c : α → Int} {n : Int} {l : List α} : mkTo f c n l 0 = l := by simp [mkTo, mkL]
theorem mkTo_all {α : Type} {f : Int → α → α} {c : α → Int} {n : Int} {l : List α} : mkTo f c n l l.length = mkL f c n l := by simp [mkTo]
theorem mkTo_length {α : Type} {f : Int → α → α} {c : α → Int} {n : Int} {l : List α} {i : Nat} (hi : i ≤ l.length) : (mkTo f c n l i).length = l.length := by
  simp [mkTo, mkL_len]; omega
theorem mkTo_at {α : Type} {f : Int → α → α} {c : α → Int} {n : Int} {l : List α} {i : Nat} (hi : i < l.length) (d : α) : (mkTo f c n l i).getD i d = l.getD i d := by
  have h1 : (mkL f c n (l.take i)).length = i := by rw [mkL_len, List.length_take]; omega
  rw [mkTo, List.getD_eq_getElem?_getD, List.getElem?_append_right (by omega), h1, Nat.sub_self, List.getElem?_drop, Nat.add_zero, List.getD_eq_getElem?_getD]
theorem mkTo_set {α : Type} {f : Int → α → α} {c : α → Int} {n : Int} {l : List α} {i : Nat} (hi : i < l.length) (d : α) : (mkTo f c n l i).set i (f (n + cnL c (l.take i)) (l.getD i d)) = mkTo f c n l (i + 1) := by
  have h1 : (mkL f c n (l.take i)).length = i := by rw [mkL_len, List.length_take]; omega
  rw [mkTo, mkTo, take_snoc hi d, mkL_snoc, List.set_append_right _ _ (by omega), h1, Nat.sub_self, drop_getD hi d, List.set_cons_zero, List.append_assoc]
  rfl
theorem cnL_take {α : Type} {c : α → Int} {l : List α} {i : Nat} (hi : i < l.length) (d : α) : cnL c (l.take (i + 1)) = cnL c (l.take i) + c (l.getD i d) := by
  rw [take_snoc hi d, cnL_snoc]

end Go.Ry
