/- Plain lemmas for what the functions come to: branches, numbers, lists. No condition. -/
import Derived.Test.YtopchiaiefkehaaGreatRy36
set_option linter.unusedVariables false
set_option linter.unusedSimpArgs false
namespace Go.Ry

theorem ifB_cases {b : Bool} {p q : Prop} (h1 : b = true → p) (h2 : b = false → q) : ifB b p q := by
  cases b
  · exact h2 rfl
  · exact h1 rfl
theorem ifB_t {b : Bool} {p q : Prop} (h : b = true) (k : p) : ifB b p q := by subst h; exact k
theorem ifB_f {b : Bool} {p q : Prop} (h : b = false) (k : q) : ifB b p q := by subst h; exact k
theorem ifP {c : Prop} [Decidable c] {p q : Prop} (h1 : c → p) (h2 : ¬ c → q) : ifB (decide c) p q :=
  ifB_cases (fun h => h1 (of_decide_eq_true h)) (fun h => h2 (of_decide_eq_false h))
theorem ifP_t {c : Prop} [Decidable c] {p q : Prop} (h : c) (k : p) : ifB (decide c) p q := ifB_t (decide_eq_true h) k
theorem ifP_f {c : Prop} [Decidable c] {p q : Prop} (h : ¬ c) (k : q) : ifB (decide c) p q := ifB_f (decide_eq_false h) k
theorem ifN {a b : Int} {p q : Prop} (h1 : a ≠ b → p) (h2 : a = b → q) : ifB (a != b) p q :=
  ifB_cases (fun h => h1 (by simpa using h)) (fun h => h2 (by simpa using h))
theorem ifN_f {a b : Int} {p q : Prop} (h : a = b) (k : q) : ifB (a != b) p q := ifB_f (by simp [h]) k
theorem ifN_t {a b : Int} {p q : Prop} (h : a ≠ b) (k : p) : ifB (a != b) p q := ifB_t (by simp [h]) k
theorem ifE {a b : Int} {p q : Prop} (h1 : a = b → p) (h2 : a ≠ b → q) : ifB (a == b) p q :=
  ifB_cases (fun h => h1 (by simpa using h)) (fun h => h2 (by simpa using h))
theorem ifE_t {a b : Int} {p q : Prop} (h : a = b) (k : p) : ifB (a == b) p q := ifB_t (by simp [h]) k
theorem ifE_f {a b : Int} {p q : Prop} (h : a ≠ b) (k : q) : ifB (a == b) p q := ifB_f (by simp [h]) k
/-- A branch as a case distinction that terms share. -/
theorem ifB_ite {b : Bool} {p q : Prop} (h : if b = true then p else q) : ifB b p q := by
  cases b
  · exact h
  · exact h

theorem wI_id {x : Int} (h : -9223372036854775808 ≤ x ∧ x ≤ 9223372036854775807) : wI x = x := by
  unfold wI
  rw [IntKind.wrap_i64]; omega
theorem w64 {x : Int} (h : -9223372036854775808 ≤ x ∧ x ≤ 9223372036854775807) : wI x = x := wI_id h

theorem toNat_succ {i : Int} (h : 0 ≤ i) : (i + 1).toNat = i.toNat + 1 := by omega
/-- Lists up to place i. -/
theorem take_succ_getD {α : Type} {l : List α} {i : Nat} (h : i < l.length) (d : α) : l.take (i + 1) = l.take i ++ [l.getD i d] := by
  rw [List.take_add_one, List.getD_eq_getElem?_getD, List.getElem?_eq_getElem h]; rfl
theorem drop_getD {α : Type} {l : List α} {i : Nat} (h : i < l.length) (d : α) : l.drop i = l.getD i d :: l.drop (i + 1) := by
  rw [List.drop_eq_getElem_cons h, List.getD_eq_getElem?_getD, List.getElem?_eq_getElem h]; rfl

/-- A list that is being filled: its first i places from l by f, the others d. -/
def fillTo {α β : Type} (f : α → β) (d : β) (l : List α) (i : Nat) : List β := (l.take i).map f ++ List.replicate (l.length - i) d
theorem fillTo_length {α β : Type} {f : α → β} {d : β} {l : List α} {i : Nat} (h : i ≤ l.length) : (fillTo f d l i).length = l.length := by
  simp [fillTo]; omega
theorem fillTo_zero {α β : Type} (f : α → β) (d : β) (l : List α) : fillTo f d l 0 = List.replicate l.length d := by simp [fillTo]
theorem fillTo_all {α β : Type} (f : α → β) (d : β) (l : List α) : fillTo f d l l.length = l.map f := by simp [fillTo]
theorem fillTo_set {α β : Type} {f : α → β} {d : β} {l : List α} {i : Nat} (h : i < l.length) (d0 : α) : (fillTo f d l i).set i (f (l.getD i d0)) = fillTo f d l (i + 1) := by
  apply List.ext_getElem?
  intro j
  have hl := fillTo_length (f := f) (d := d) (l := l) (i := i) (by omega)
  by_cases hj : i = j
  · subst hj
    rw [List.getElem?_set_self (by omega)]
    simp only [fillTo]
    rw [List.getElem?_append_left (by simp; omega), List.getElem?_map, List.getElem?_take_of_lt (by omega), List.getElem?_eq_getElem h]
    simp [List.getD, List.getElem?_eq_getElem h]
  · rw [List.getElem?_set_ne hj]
    simp only [fillTo]
    by_cases hlt : j < i
    · rw [List.getElem?_append_left (by simp; omega), List.getElem?_append_left (by simp; omega), List.getElem?_map, List.getElem?_map, List.getElem?_take_of_lt hlt, List.getElem?_take_of_lt (by omega)]
    · rw [List.getElem?_append_right (by simp; omega), List.getElem?_append_right (by simp; omega), List.getElem?_replicate, List.getElem?_replicate]
      simp only [List.length_map, List.length_take]
      by_cases hk : j < l.length
      · rw [if_pos (by omega), if_pos (by omega)]
      · rw [if_neg (by omega), if_neg (by omega)]

/-- A list that is being marked: its first i places by g, the others as they were. -/
def markTo {β : Type} (g : Nat → β) (r : List β) (i : Nat) : List β := (List.range i).map g ++ r.drop i
theorem markTo_length {β : Type} {g : Nat → β} {r : List β} {i : Nat} (h : i ≤ r.length) : (markTo g r i).length = r.length := by
  simp [markTo]; omega
theorem markTo_zero {β : Type} (g : Nat → β) (r : List β) : markTo g r 0 = r := by simp [markTo]
theorem markTo_all {β : Type} (g : Nat → β) (r : List β) : markTo g r r.length = (List.range r.length).map g := by simp [markTo]
theorem markTo_set {β : Type} {g : Nat → β} {r : List β} {i : Nat} (h : i < r.length) : (markTo g r i).set i (g i) = markTo g r (i + 1) := by
  apply List.ext_getElem?
  intro j
  have hl := markTo_length (g := g) (r := r) (i := i) (by omega)
  by_cases hj : i = j
  · subst hj
    rw [List.getElem?_set_self (by omega)]
    simp only [markTo]
    rw [List.getElem?_append_left (by simp)]
    simp
  · rw [List.getElem?_set_ne hj]
    simp only [markTo]
    by_cases hlt : j < i
    · rw [List.getElem?_append_left (by simp; omega), List.getElem?_append_left (by simp; omega)]
      simp [hlt, show j < i + 1 by omega]
    · rw [List.getElem?_append_right (by simp; omega), List.getElem?_append_right (by simp; omega)]
      simp only [List.length_map, List.length_range, List.getElem?_drop]
      congr 1; omega

/-- A search from the left: the first place from i on where p holds; -1 if there is none. -/
def findI {α : Type} (p : α → Bool) : List α → Nat → Int
  | [], _ => -1
  | x :: l, i => if p x = true then (i : Int) else findI p l (i + 1)
theorem findI_ge {α : Type} {p : α → Bool} : ∀ {l : List α} {i : Nat}, decide (findI p l i ≥ 0) = l.any p
  | [], i => by simp [findI]
  | x :: l, i => by
    simp only [findI, List.any_cons]
    split
    · rename_i h
      simp [h]
    · rename_i h
      rw [findI_ge (l := l)]
      simp at h
      simp [h]
theorem all_any {α : Type} (l : List α) (p : α → Bool) : (!(l.any fun x => !p x)) = l.all p := by
  induction l with
  | nil => rfl
  | cons x l ih => simp [← ih]
end Go.Ry
