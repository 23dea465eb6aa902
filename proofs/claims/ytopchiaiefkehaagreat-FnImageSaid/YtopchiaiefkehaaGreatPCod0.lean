/- Code as a text, the reference's. No condition. -/
import Derived.Test.YtopchiaiefkehaaGreatPCod1
set_option linter.unusedVariables false
set_option linter.unusedSimpArgs false
namespace Go.Ry
open Go.Proofs

theorem strL_append (a b : List Int) : strL a ++ strL b = strL (a ++ b) := by
  apply ByteArray.ext
  simp [strL, ByteArray.data_append]
theorem takeE {l : List Ins} {i : Nat} (h : i < l.length) : encL (l.take (i + 1)) = encL (l.take i) ++ encI (l.getD i ((0 : Int), ((0 : Int), ()))) := by
  rw [take_succ_getD h ((0 : Int), ((0 : Int), ())), encL_append]; simp [encL]
theorem getD_mem' {l : List Ins} {i : Nat} (h : i < l.length) : l.getD i ((0 : Int), ((0 : Int), ())) ∈ l := by
  rw [List.getD_eq_getElem?_getD, List.getElem?_eq_getElem h]; exact List.getElem_mem h
theorem c_spec_l02Bytes (l : List Ins) (h : ∀ x ∈ l, instrOK x.1 x.2.1 = true) (hl : l.length ≤ 40) : TT n_spec_l02Bytes [.one (.sl tIns l)] [] (eS (strL (encL l))) [] := by
  refine r_spec_l02Bytes l ⟨fun m s i => 0 ≤ i ∧ i ≤ l.length ∧ m = (l.length - i).toNat ∧ s = strL (encL (l.take i.toNat)), ⟨_, rfl, by omega, by omega, rfl, rfl⟩, ?_⟩
  rintro m s i ⟨h0, h1, rfl, rfl⟩
  have hle : (encL (l.take i.toNat)).length ≤ 200 := by
    have := encL_len (l := l.take i.toNat)
    rw [List.length_take] at this
    omega
  refine ifP (fun hlt => ⟨⟨h0, hlt⟩, ?_⟩) (fun hge => ?_)
  · have hi : i.toNat < l.length := by omega
    have ht := takeE hi
    have hok := insOK_op (h _ (getD_mem' hi))
    revert ht hok
    generalize l.getD i.toNat ((0 : Int), ((0 : Int), ())) = x
    intro ht hok
    have e1 : leB x.1 1 = [x.1] := by simp only [leB, wu8_eq, List.cons.injEq, and_true]; omega
    have k1 := c_spec_l01Put x.1 1 (by simp [isZ])
    rw [e1] at k1
    rw [w64 (x := i + 1) (by omega)]
    refine ⟨_, k1, by rw [strL_size, strL_size]; simp; omega, ⟨h0, hlt⟩, _, _, _, c_spec_l02Has _, ifB_cases (fun hh => ⟨⟨h0, hlt⟩, ?_⟩) (fun hh => ?_)⟩
    · refine ⟨_, c_spec_l01Put x.2.1 4 (by simp [isZ]), ?_, _, by omega, rfl, by omega, by omega, rfl, ?_⟩
      · rw [strL_append, strL_size, strL_size, leB_length]; simp; omega
      · rw [toNat_succ h0, ht, strL_append, strL_append, encI, if_pos hh, List.append_assoc]; rfl
    · refine ⟨_, by omega, rfl, by omega, by omega, rfl, ?_⟩
      rw [toNat_succ h0, ht, strL_append, encI, if_neg (by rw [hh]; simp)]
  · rw [show i.toNat = l.length by omega, List.take_length]
    exact ⟨rfl, rfl⟩
end Go.Ry
