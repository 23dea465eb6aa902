/- The texts of instructions: the program's and the reference's. No condition. -/
import Derived.Test.YtlfapnlaalnbjaaGreatDoorPOpn1
set_option linter.unusedVariables false
set_option linter.unusedSimpArgs false
namespace Go.Ry
open Go.Proofs

theorem c_spec_OpName (op : Int) : TT n_spec_OpName [eI op] [] (eS (nameOf op)) [] := by
  refine r_spec_OpName op ⟨_, c_spec_l02Op op, ifB_cases (fun h => ?_) (fun h => ?_)⟩
  · have h : isOp op = false := by simpa using h
    exact ⟨by simp [nameOf, h], rfl⟩
  · have h : isOp op = true := by simpa using h
    have hr := within_iff.1 (show within op 1 26 = true from h)
    rw [w64 (x := op - 1) (by omega)]
    exact ⟨namesB, r_spec_l02Names ⟨rfl, rfl⟩, ⟨by omega, by rw [namesB_len]; omega⟩, by simp [nameOf, h], rfl⟩
theorem c_hasOp (op : Int) : TT n_impl_hasOperand [eI op] [] (eB (rangeOf op).2.2) [] := r_impl_hasOperand op ⟨_, _, _, c_impl_rangeOf op, rfl, rfl⟩
@[reducible] def blB : ByteArray := ⟨#[32]⟩
/-- An instruction's text. -/
def insT (op a : Int) : ByteArray := if (rangeOf op).2.2 = true then (nameOf op ++ blB) ++ itoaB a else nameOf op
theorem insT_size (op a : Int) : (insT op a).size ≤ 28 := by
  have h1 := nameOf_size op
  have h2 := itoaB_size a
  unfold insT
  split
  · simp only [size_append, size_lit, List.length_cons, List.length_nil]; omega
  · omega
theorem c_spec_l02Text (op a : Int) (ha : i64 a) : TT n_spec_l02Text [.agg [cI op, cI a]] [] (eS (insT op a)) [] := by
  have h1 := nameOf_size op
  have h2 := itoaB_size a
  refine r_spec_l02Text op a ⟨_, _, _, c_spec_l02Has op, ifB_cases (fun h => ?_) (fun h => ?_)⟩
  · refine ⟨_, c_spec_OpName op, ?_, _, c_spec_l00Digits a ha, ?_, by rw [insT, if_pos h], rfl⟩
    · simp only [size_lit, List.length_cons, List.length_nil]; omega
    · simp only [size_append, size_lit, List.length_cons, List.length_nil]; omega
  · exact ⟨_, c_spec_OpName op, by rw [insT, if_neg (by rw [h]; exact Bool.false_ne_true)], rfl⟩
theorem c_impl_instrText (op a : Int) (ha : i64 a) : TT n_impl_instrText [.agg [cI op, cI a]] [] (eS (insT op a)) [] := by
  have h1 := nameOf_size op
  have h2 := itoaB_size a
  refine r_impl_instrText op a ⟨_, c_impl_OpName op, _, c_hasOp op, ifB_cases (fun h => ?_) (fun h => ?_)⟩
  · refine ⟨_, c_impl_decimal a ha, ?_, ?_, by rw [insT, if_pos h, append_assoc'], rfl⟩
    · simp only [size_lit, List.length_cons, List.length_nil]; omega
    · simp only [size_append, size_lit, List.length_cons, List.length_nil]; omega
  · exact ⟨by rw [insT, if_neg (by rw [h]; exact Bool.false_ne_true)], rfl⟩
theorem instr_i64 {op a : Int} (h : instrOK op a = true) : i64 a := by
  have h2 : -2147483648 ≤ (rangeOf op).1 ∧ (rangeOf op).2.1 ≤ 2147483647 := by
    unfold rangeOf
    repeat' split
    all_goals simp
  simp only [instrOK, Bool.and_eq_true] at h
  have := within_iff.1 h.2
  unfold i64; omega
end Go.Ry
