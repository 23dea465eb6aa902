/- Numbers as texts: the numeral, and the reference's digits. No condition. -/
import Derived.Test.YtlfapnlaalnbjaaGreatDoorPNum1
import Derived.Test.YtlfapnlaalnbjaaGreatDoorPStr
import Derived.Lib.ItoaLen
set_option linter.unusedVariables false
set_option linter.unusedSimpArgs false
namespace Go.Ry
open Go.Proofs Go.RowKit

theorem ba_ext {a b : ByteArray} (h : a.data.toList = b.data.toList) : a = b := ByteArray.ext (Array.toList_inj.1 h)
theorem size_lit (l : List UInt8) : (⟨l.toArray⟩ : ByteArray).size = l.length := by simp [ByteArray.size]
theorem data_app (a b : ByteArray) : (a ++ b).data.toList = a.data.toList ++ b.data.toList := by simp [ByteArray.data_append]
@[reducible] def i64 (n : Int) : Prop := -9223372036854775808 ≤ n ∧ n ≤ 9223372036854775807
theorem i64_wf {n : Int} (h : Ty.wf (.int .i64) n) : i64 n := by
  simp only [Ty.wf, Lit.wf, IntKind.min, IntKind.max, IntKind.signed, IntKind.bits, Bool.and_eq_true, decide_eq_true_eq] at h
  simp at h
  unfold i64; omega
/-- A number's text. -/
def itoaB (n : Int) : ByteArray := if -9223372036854775808 ≤ n ∧ n ≤ 9223372036854775807 then ⟨(Lib.itoa n).toArray⟩ else ⟨#[]⟩
theorem itoaB_eq {n : Int} (h : i64 n) : itoaB n = ⟨(Lib.itoa n).toArray⟩ := if_pos h
theorem itoaB_size (n : Int) : (itoaB n).size ≤ 21 := by
  unfold itoaB
  split
  · rename_i h
    rw [size_lit]
    exact Lib.itoa_length_le n h.1 h.2
  · exact Nat.zero_le _
theorem itoaB_nat {n : Int} (h0 : 0 ≤ n) (h : i64 n) : (itoaB n).data.toList = Lib.decDigits n.toNat := by
  rw [itoaB_eq h]
  simp [Lib.itoa, show ¬ n < 0 by omega]

/-! ### the reference's digits -/
theorem digits_step {u : Nat} (h : ¬ u < 10) : Lib.decDigits u = Lib.decDigits (u / 10) ++ [UInt8.ofNat (48 + u % 10)] := by
  conv => lhs; rw [Lib.decDigits, dif_neg h]
theorem digit_lit {n : Int} (h0 : 0 ≤ n) (h9 : n ≤ 9) : strL [wY (wI (48 + n))] = ⟨#[UInt8.ofNat (48 + n.toNat)]⟩ := by
  have e : wY (wI (48 + n)) = 48 + n := by
    show IntKind.wrap .u8 (wI (48 + n)) = 48 + n
    rw [w64 (by omega)]; simp [IntKind.wrap, IntKind.signed, IntKind.bits]; omega
  rw [e]
  unfold strL
  simp [show (48 + n).toNat = 48 + n.toNat by omega]
theorem c_digN : ∀ (k : Nat) (n : Int), 0 ≤ n → n.toNat < k → i64 n → TT n_spec_l00Digits [eI n] [] (eS (itoaB n)) [] := by
  intro k
  induction k with
  | zero => intro n h0 h; omega
  | succ k ih =>
    intro n h0 hk hn
    refine r_spec_l00Digits n (ifE (fun h => by omega) (fun _ => ifP (fun h => by omega) (fun _ => ifP (fun h => ⟨?_, rfl⟩) (fun h => ⟨by decide, by decide, ?_⟩))))
    · rw [digit_lit h0 (by omega)]
      have : itoaB n = ⟨#[UInt8.ofNat (48 + n.toNat)]⟩ := ba_ext (by
        rw [itoaB_nat h0 hn, Lib.decDigits, dif_pos (by omega)])
      rw [this]
    · have e1 : Int.tdiv n 10 = n / 10 := Int.tdiv_eq_ediv_of_nonneg h0
      have e2 : Int.tmod n 10 = n % 10 := Int.tmod_eq_emod_of_nonneg h0
      rw [e1, e2, w64 (x := n / 10) (by omega), digit_lit (n := n % 10) (by omega) (by omega)]
      have hi := ih (n / 10) (by omega) (by omega) ⟨by omega, by omega⟩
      have hsz := itoaB_size (n / 10)
      have fin : itoaB (n / 10) ++ ⟨#[UInt8.ofNat (48 + (n % 10).toNat)]⟩ = itoaB n := ba_ext (by
        rw [data_app, itoaB_nat h0 hn, itoaB_nat (by omega) ⟨by omega, by omega⟩, digits_step (u := n.toNat) (by omega), show (n / 10).toNat = n.toNat / 10 by omega, show (n % 10).toNat = n.toNat % 10 by omega])
      refine ⟨⟨_, hi, ?_, by rw [fin], rfl⟩, ⟨_, hi, ?_, by rw [fin], rfl⟩, ⟨_, hi, ?_, by rw [fin], rfl⟩⟩
      all_goals (simp only [size_lit, List.length_cons, List.length_nil]; omega)
theorem c_spec_l00Digits (n : Int) (hn : i64 n) : TT n_spec_l00Digits [eI n] [] (eS (itoaB n)) [] := by
  by_cases h0 : 0 ≤ n
  · exact c_digN _ n h0 (Nat.lt_succ_self _) hn
  · refine r_spec_l00Digits n (ifE (fun h => ⟨?_, rfl⟩) (fun hm => ifP (fun h => ?_) (fun h => by omega)))
    · subst h
      have : itoaB (-9223372036854775808) = ⟨#[45, 57, 50, 50, 51, 51, 55, 50, 48, 51, 54, 56, 53, 52, 55, 55, 53, 56, 48, 56]⟩ := by
        rw [itoaB_eq (by unfold i64; omega)]
        simp [Lib.itoa, Lib.decDigits]
      rw [this]
    · rw [show (0 : Int) - n = -n by omega, w64 (x := -n) (by omega)]
      have hs := itoaB_size (-n)
      refine ⟨_, c_digN _ (-n) (by omega) (Nat.lt_succ_self _) ⟨by omega, by omega⟩, ?_, ?_, rfl⟩
      · simp only [size_lit, List.length_cons, List.length_nil]; omega
      · have : (⟨#[45]⟩ : ByteArray) ++ itoaB (-n) = itoaB n := ba_ext (by
          rw [data_app, itoaB_nat (by omega) ⟨by omega, by omega⟩, itoaB_eq hn]
          simp [Lib.itoa, show n < 0 by omega, show (-n).toNat = n.natAbs by omega])
        rw [this]
end Go.Ry
