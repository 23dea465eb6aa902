/- A source's text, the reference's. No condition. -/
import Derived.Test.YthpolfpbioebnaaGreatPSrc1
import Derived.Test.YthpolfpbioebnaaGreatPTxt0
set_option linter.unusedVariables false
set_option linter.unusedSimpArgs false
namespace Go.Ry
open Go.Proofs

def sourceB (ar dn th lo dr n : Int) : ByteArray :=
  (((((((((((⟨#[97, 114, 114, 105, 118, 101, 100, 32]⟩ : ByteArray) ++ itoaB ar) ++ (⟨#[32, 100, 111, 110, 101, 32]⟩ : ByteArray)) ++ itoaB dn) ++ (⟨#[32, 116, 104, 114, 111, 116, 116, 108, 101, 100, 32]⟩ : ByteArray)) ++ itoaB th) ++
    (⟨#[32, 108, 111, 115, 116, 32]⟩ : ByteArray)) ++ itoaB lo) ++ (⟨#[32, 100, 114, 111, 112, 112, 101, 100, 32]⟩ : ByteArray)) ++ itoaB dr) ++ (⟨#[32, 119, 97, 105, 116, 105, 110, 103, 32]⟩ : ByteArray)) ++ itoaB n
theorem sourceB_size (ar dn th lo dr n : Int) : (sourceB ar dn th lo dr n).size ≤ 200 := by
  have s1 := itoaB_size ar; have s2 := itoaB_size dn; have s3 := itoaB_size th; have s4 := itoaB_size lo; have s5 := itoaB_size dr; have s6 := itoaB_size n
  unfold sourceB
  simp only [size_append, size_lit, List.length_cons, List.length_nil]; omega
theorem c_spec_l10Text (la ar dn th lo dr : Int) (q : List Int) (h1 : i64 ar) (h2 : i64 dn) (h3 : i64 th) (h4 : i64 lo) (h5 : i64 dr) (hq : q.length ≤ 4) :
    TT n_spec_l10Text [srcE la ar dn th lo dr q] [] (eS (sourceB ar dn th lo dr q.length)) [] := by
  have s1 := itoaB_size ar; have s2 := itoaB_size dn; have s3 := itoaB_size th; have s4 := itoaB_size lo; have s5 := itoaB_size dr; have s6 := itoaB_size q.length
  refine r_spec_l10Text la ar dn th lo dr q ⟨_, c_spec_l00Digits _ h1, ?_, ?_, _, c_spec_l00Digits _ h2, ?_, ?_, _, c_spec_l00Digits _ h3, ?_, ?_, _, c_spec_l00Digits _ h4, ?_, ?_, _, c_spec_l00Digits _ h5, ?_, ?_, _, c_spec_l00Digits _ (by unfold i64; omega), ?_, rfl, rfl⟩
  all_goals (simp only [size_append, size_lit, List.length_cons, List.length_nil]; omega)
end Go.Ry
