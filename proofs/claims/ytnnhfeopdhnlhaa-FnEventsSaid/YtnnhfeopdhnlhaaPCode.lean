/- What ReadCode of the program and of the reference come to: the same. No condition. -/
import Derived.Test.YtnnhfeopdhnlhaaPSrc
import Derived.Laws.BitsLemmas
set_option linter.unusedVariables false
set_option linter.unusedSimpArgs false
namespace Go.Ry
variable {C : Calls_}

/-! ### bytes -/
theorem bytesL_size (s : ByteArray) : (bytesL s).length = s.size := bytesL_length s
theorem bytes_at {s : ByteArray} {i : Nat} : 0 ≤ (bytesL s).getD i 0 ∧ (bytesL s).getD i 0 < 256 := by
  simp only [bytesL, List.getD_eq_getElem?_getD, List.getElem?_map]
  cases h : s.data.toList[i]? with
  | none => simp
  | some b =>
    have := b.toNat_lt
    simp; omega
theorem bytes_extract (s : ByteArray) {a b : Nat} (h : b ≤ s.size) : bytesL (s.extract a b) = ((bytesL s).take b).drop a := by
  have e : (s.extract a b).data = s.data.extract a b := by
    simp [ByteArray.data_extract]
  simp only [bytesL, e, Array.toList_extract, List.extract_eq_take_drop, List.map_take, List.map_drop]
  rw [List.drop_take]
theorem or_byte {x y : Int} (hx : 0 ≤ x ∧ x < 36028797018963968) (hy : 0 ≤ y ∧ y < 256) : bits .or .i64 (x * 256) y = x * 256 + y := by
  refine bits_join .i64 63 (by decide) (fun n h0 h1 => ?_) 8 (x * 256) y (by omega) (by omega) ?_ hy.1 (by omega) ?_
  · rw [IntKind.wrap_i64]; have h2 : n < 9223372036854775808 := by simpa using h1
    omega
  · show x * 256 < 9223372036854775808; omega
  · show y < 9223372036854775808; omega
/-- Four bytes, the lowest first, as a number with a sign. -/
def four (l : List Int) : Int := l.getD 0 0 + 256 * l.getD 1 0 + 65536 * l.getD 2 0 + 16777216 * l.getD 3 0 - (if 128 ≤ l.getD 3 0 then 4294967296 else 0)

theorem getD_drop' (l : List Int) (a i : Nat) : (l.drop a).getD i 0 = l.getD (a + i) 0 := by
  simp [List.getD_eq_getElem?_getD, List.getElem?_drop]

end Go.Ry
