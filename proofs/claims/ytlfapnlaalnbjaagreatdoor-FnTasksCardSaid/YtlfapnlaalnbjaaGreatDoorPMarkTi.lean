/- What the laws' own marks do. No condition. -/
import Derived.Test.YtlfapnlaalnbjaaGreatDoorPNum1
set_option linter.unusedVariables false
set_option linter.unusedSimpArgs false
namespace Go.Ry
open Go.Proofs

theorem getD_set_self {α : Type} {l : List α} {i : Nat} (h : i < l.length) {x d : α} : (l.set i x).getD i d = x := by
  rw [List.getD_eq_getElem?_getD, List.getElem?_set_self h]; rfl

end Go.Ry
