/- A program's text, the reference's. No condition. -/
import Derived.Test.YtopchiaiefkehaaGreatPSam1
import Derived.Test.YtopchiaiefkehaaGreatPCod0
import Derived.Test.YtopchiaiefkehaaGreatPDat1
set_option linter.unusedVariables false
set_option linter.unusedSimpArgs false
set_option synthInstance.maxSize 4000
namespace Go.Ry
open Go.Proofs

theorem strL_inj {a b : List Int} (ha : isB a) (hb : isB b) (h : strL a = strL b) : a = b := by rw [← toBytes ha, h, toBytes hb]
theorem isB_app {a b : List Int} (ha : isB a) (hb : isB b) : isB (a ++ b) := fun x hx => by
  rcases List.mem_append.1 hx with h | h
  · exact ha x h
  · exact hb x h
theorem isB_flat {α : Type} {f : α → List Int} {l : List α} (h : ∀ x ∈ l, isB (f x)) : isB (l.flatMap f) := fun y hy => by
  obtain ⟨x, hx, hy⟩ := List.mem_flatMap.1 hy
  exact h x hx y hy
theorem takeF {α : Type} {l : List α} {f : α → List Int} {i : Nat} (h : i < l.length) (d : α) : (l.take (i + 1)).flatMap f = (l.take i).flatMap f ++ f (l.getD i d) := by
  rw [take_succ_getD h d, List.flatMap_append]; simp
theorem rou_at {rs : List Rou} (h : ∀ r ∈ rs, (∀ x ∈ r.1, instrOK x.1 x.2.1 = true) ∧ r.1.length ≤ 40) {i : Nat} (hi : i < rs.length) : (∀ x ∈ (rs.getD i (([] : List Ins), ())).1, instrOK x.1 x.2.1 = true) ∧ (rs.getD i (([] : List Ins), ())).1.length ≤ 40 :=
  h _ (by rw [List.getD_eq_getElem?_getD, List.getElem?_eq_getElem hi]; exact List.getElem_mem _)
theorem progB_isB {ks : List Int} {rs : List Rou} {ts : List Tsk} {sf : List Bool} (h : PrgFit ks rs ts sf) : isB (progB ks rs ts sf) := by
  have b1 := rous_in h.hr
  unfold progB
  refine isB_app (isB_app (isB_app (isB_app (isB_app (isB_app leB_isB (isB_flat fun x _ => leB_isB)) leB_isB) (isB_flat fun r hr => ?_)) leB_isB) (isB_flat fun t _ => ?_)) ?_
  · exact isB_app leB_isB (encL_isB (b1.2 r hr).1)
  · exact isB_app (isB_app (isB_app (isB_app (isB_app leB_isB leB_isB) leB_isB) leB_isB) leB_isB) leB_isB
  · intro x hx; simp at hx; rw [hx, wu8_eq]; omega
end Go.Ry
