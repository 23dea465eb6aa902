/- Code as a text, the reference's. No condition. -/
import Derived.Test.YtopchiaiefkehaaGreatPCod1
set_option linter.unusedVariables false
set_option linter.unusedSimpArgs false
namespace Go.Ry
open Go.Proofs

theorem strL_append (a b : List Int) : strL a ++ strL b = strL (a ++ b) := by
  apply ByteArray.ext
  simp [strL, ByteArray.data_append]
theorem takeE {l : List Ins} {i : Nat} (h : i < l.length) : encL (l.take (i + 1)) = encL (l.take i) ++ encI (l.getD i ((0 : Int), ((0 : Int), ()))) := by
  rw [take_succ_getD h ((0 : Int), ((0 : Int), ())), encL_append]; simp [encL]
theorem getD_mem' {l : List Ins} {i : Nat} (h : i < l.length) : l.getD i ((0 : Int), ((0 : Int), ())) ∈ l := by
  rw [List.getD_eq_getElem?_getD, List.getElem?_eq_getElem h]; exact List.getElem_mem h
end Go.Ry
