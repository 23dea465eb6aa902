/- Code as a text, written through strings.Builder. No condition. -/
import Derived.Test.YtopchiaiefkehaaGreatPCod0
import Derived.Test.YtopchiaiefkehaaGreatPBld
set_option linter.unusedVariables false
set_option linter.unusedSimpArgs false
namespace Go.Ry
open Go.Proofs

@[reducible] def bldO' (r : List Int) : List Ob := [.box [.selfp 0 t_strings_Builder 2, .row 2], .dead, .row t_uint8 (.int .u8) r]
theorem c_WriteByte (n : Int) (r : List Int) (h : r.length ≤ 1048576) : TT n_strings_Builder_WriteByte [.one (.ptrB 0 0), .one (cY n)] (bldO r) (.one (.ifc true)) (bldO' (r ++ [n])) :=
  r_strings_Builder_WriteByte n r ⟨c_copyCheck r, by simp; omega, rfl, rfl⟩
theorem c_WriteString (s : ByteArray) (r : List Int) (h : r.length ≤ 1048576) (hs : s.size ≤ 1048576) : TT n_strings_Builder_WriteString [.one (.ptrB 0 0), eS s] (bldO r) (.tup [(false, [cI (s.size : Int)]), (false, [.ifc true])]) (bldO' (r ++ bytesL s)) :=
  r_strings_Builder_WriteString s r ⟨c_copyCheck r, by rw [bytesL_size]; omega, rfl, rfl⟩
theorem c_impl_codeText (l : List Ins) (h : ∀ x ∈ l, instrOK x.1 x.2.1 = true) (hl : l.length ≤ 40) : TT n_impl_codeText [.one (.sl tIns l)] [] (eS (strL (encL l))) [] := by
  refine r_impl_codeText l ⟨fun m i r => 0 ≤ i ∧ i ≤ l.length ∧ m = (l.length - i).toNat ∧ r = encL (l.take i.toNat), ⟨_, rfl, by omega, by omega, rfl, rfl⟩, ?_⟩
  rintro m i r ⟨h0, h1, rfl, rfl⟩
  have hle : (encL (l.take i.toNat)).length ≤ 200 := by
    have := encL_len (l := l.take i.toNat)
    rw [List.length_take] at this
    omega
  refine ifP (fun hlt => ⟨⟨h0, hlt⟩, ?_⟩) (fun hge => ?_)
  · have hi : i.toNat < l.length := by omega
    have ht := takeE hi
    have hok := insOK_op (h _ (getD_mem' hi))
    revert ht hok
    generalize l.getD i.toNat ((0 : Int), ((0 : Int), ())) = x
    intro ht hok
    have e8 : wY x.1 = x.1 := by show IntKind.wrap .u8 x.1 = x.1; rw [wu8_eq]; omega
    rw [e8, w64 (x := i + 1) (by omega)]
    refine ⟨_, _, c_WriteByte x.1 _ (by omega), _, c_impl_hasOperand _, ifB_cases (fun hh => ?_) (fun hh => ?_)⟩
    · have hb : bytesL (strL (leB x.2.1 4)) = leB x.2.1 4 := toBytes leB_isB
      refine ⟨_, c_impl_put x.2.1 4 (by simp [isZ]), _, _, _, c_WriteString _ _ (by simp; omega) (by rw [strL_size, leB_length]; omega), _, by omega, rfl, by omega, by omega, rfl, ?_⟩
      rw [toNat_succ h0, ht, hb, encI, if_pos hh, List.append_assoc]; rfl
    · refine ⟨_, by omega, rfl, by omega, by omega, rfl, ?_⟩
      rw [toNat_succ h0, ht, encI, if_neg (by rw [hh]; simp)]
  · rw [show i.toNat = l.length by omega, List.take_length]
    exact ⟨_, c_String _ (encL_isB h), rfl, rfl⟩
end Go.Ry
