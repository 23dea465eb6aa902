/- Numbers as texts: the numeral, and the reference's digits. No condition. -/
import Derived.Test.YthpolfpbioebnaaDoorPNum1
import Derived.Test.YthpolfpbioebnaaDoorPStr
import Derived.Lib.ItoaLen
set_option linter.unusedVariables false
set_option linter.unusedSimpArgs false
namespace Go.Ry
open Go.Proofs Go.RowKit

theorem ba_ext {a b : ByteArray} (h : a.data.toList = b.data.toList) : a = b := ByteArray.ext (Array.toList_inj.1 h)
theorem size_lit (l : List UInt8) : (⟨l.toArray⟩ : ByteArray).size = l.length := by simp [ByteArray.size]
theorem data_app (a b : ByteArray) : (a ++ b).data.toList = a.data.toList ++ b.data.toList := by simp [ByteArray.data_append]
@[reducible] def i64 (n : Int) : Prop := -9223372036854775808 ≤ n ∧ n ≤ 9223372036854775807
theorem i64_wf {n : Int} (h : Ty.wf (.int .i64) n) : i64 n := by
  simp only [Ty.wf, Lit.wf, IntKind.min, IntKind.max, IntKind.signed, IntKind.bits, Bool.and_eq_true, decide_eq_true_eq] at h
  simp at h
  unfold i64; omega
/-- A number's text. -/
def itoaB (n : Int) : ByteArray := if -9223372036854775808 ≤ n ∧ n ≤ 9223372036854775807 then ⟨(Lib.itoa n).toArray⟩ else ⟨#[]⟩
theorem itoaB_eq {n : Int} (h : i64 n) : itoaB n = ⟨(Lib.itoa n).toArray⟩ := if_pos h
theorem itoaB_size (n : Int) : (itoaB n).size ≤ 21 := by
  unfold itoaB
  split
  · rename_i h
    rw [size_lit]
    exact Lib.itoa_length_le n h.1 h.2
  · exact Nat.zero_le _
theorem itoaB_nat {n : Int} (h0 : 0 ≤ n) (h : i64 n) : (itoaB n).data.toList = Lib.decDigits n.toNat := by
  rw [itoaB_eq h]
  simp [Lib.itoa, show ¬ n < 0 by omega]

/-! ### the reference's digits -/
theorem digits_step {u : Nat} (h : ¬ u < 10) : Lib.decDigits u = Lib.decDigits (u / 10) ++ [UInt8.ofNat (48 + u % 10)] := by
  conv => lhs; rw [Lib.decDigits, dif_neg h]
theorem digit_lit {n : Int} (h0 : 0 ≤ n) (h9 : n ≤ 9) : strL [wY (wI (48 + n))] = ⟨#[UInt8.ofNat (48 + n.toNat)]⟩ := by
  have e : wY (wI (48 + n)) = 48 + n := by
    show IntKind.wrap .u8 (wI (48 + n)) = 48 + n
    rw [w64 (by omega)]; simp [IntKind.wrap, IntKind.signed, IntKind.bits]; omega
  rw [e]
  unfold strL
  simp [show (48 + n).toNat = 48 + n.toNat by omega]
end Go.Ry
