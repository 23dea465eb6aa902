/- The lines of a log: the program's and the reference's are the same; the law. No condition. -/
import Derived.Test.YtmcgmmmbnidpnaaDoorPTxt1
import Derived.Test.YtmcgmmmbnidpnaaDoorPTxt2
import Derived.Test.YtmcgmmmbnidpnaaDoorPStdTx
import Derived.Test.YtmcgmmmbnidpnaaDoorPMarkTx
set_option linter.unusedVariables false
set_option linter.unusedSimpArgs false
namespace Go.Ry
open Go.Proofs

abbrev Dne := Int × Int × Int × Int × Unit
@[reducible] def tDne : Ty := .pair (.int .i64) (.pair (.int .i64) (.pair (.int .i64) (.pair (.int .i64) .unit)))
@[reducible] def dDne : Dne := ((0 : Int), ((0 : Int), ((0 : Int), ((0 : Int), ()))))
def doneT (x : Dne) : ByteArray :=
  (((((((⟨#[116, 97, 115, 107, 32]⟩ : ByteArray) ++ itoaB x.1) ++ (⟨#[32, 97, 114, 114, 105, 118, 101, 100, 32]⟩ : ByteArray)) ++ itoaB x.2.1) ++ (⟨#[32, 115, 116, 97, 114, 116, 101, 100, 32]⟩ : ByteArray)) ++ itoaB x.2.2.1) ++ (⟨#[32, 102, 105, 110, 105, 115, 104, 101, 100, 32]⟩ : ByteArray)) ++ itoaB x.2.2.2.1
@[reducible] def dne64 (x : Dne) : Prop := i64 x.1 ∧ i64 x.2.1 ∧ i64 x.2.2.1 ∧ i64 x.2.2.2.1
theorem c_spec_l13Log (l : List Dne) (hl : l.length ≤ 4096) (hw : ∀ x ∈ l, dne64 x) : TT n_spec_l13Log [.one (.sl tDne l)] [] (.one (.row 0)) [.row t_string .str (l.map doneT)] := by
  refine r_spec_l13Log l ⟨fun m i r => 0 ≤ i ∧ i ≤ l.length ∧ m = (l.length - i).toNat ∧ r = (l.take i.toNat).map doneT, ⟨_, rfl, by omega, by omega, rfl, by simp⟩, ?_⟩
  rintro m i r ⟨h0, h1, rfl, rfl⟩
  refine ifP (fun hlt => ?_) (fun hge => ?_)
  · have hx := hw (l.getD i.toNat dDne) (getD_mem (by omega))
    have ht := take_succ_getD (l := l) (i := i.toNat) (by omega) dDne
    revert hx ht
    generalize l.getD i.toNat dDne = x
    intro hx ht
    have s1 := itoaB_size x.1; have s2 := itoaB_size x.2.1; have s3 := itoaB_size x.2.2.1; have s4 := itoaB_size x.2.2.2.1
    rw [w64 (x := i + 1) (by omega)]
    refine ⟨⟨h0, hlt⟩, _, c_spec_l00Digits _ hx.1, ?_, ?_, _, c_spec_l00Digits _ hx.2.1, ?_, ?_, _, c_spec_l00Digits _ hx.2.2.1, ?_, ?_, _, c_spec_l00Digits _ hx.2.2.2, ?_, ?_, _, ?_, rfl, by omega, by omega, rfl, ?_⟩
    case refine_10 => rw [toNat_succ h0, ht, List.map_append]; rfl
    case refine_8 => simp only [List.length_map, List.length_take, List.length_cons, List.length_nil]; omega
    case refine_9 => omega
    all_goals (simp only [size_append, size_lit, List.length_cons, List.length_nil]; omega)
  · rw [List.take_of_length_le (by omega)]; exact ⟨rfl, rfl⟩
theorem c_impl_many_Done (l : List Dne) : TT n_impl_many_impl_Done [.one (.sl tDne l)] [] (eI (if (l.length : Int) > 4096 then 2 else 0)) [] :=
  r_impl_many_impl_Done l ⟨_, c_impl_when _ _, by simp, rfl⟩
def logM (l : List Dne) : List ByteArray × Int := if (l.length : Int) > 4096 then ([], 2) else (l.map doneT, 0)
theorem c_spec_LogLines (l : List Dne) (hw : ∀ x ∈ l, dne64 x) : TT n_spec_LogLines [.one (.sl tDne l)] [] (.tup [(false, [.row 0]), (false, [cI (logM l).2])]) [.row t_string .str (logM l).1] := by
  refine r_spec_LogLines l (ifP (fun h => ⟨by simp [logM, h], by simp [logM, h]⟩) (fun h => ⟨_, c_spec_l13Log l (by omega) hw, by simp [logM, h], by simp [logM, h]⟩))
theorem c_impl_LogLines (l : List Dne) (hw : ∀ x ∈ l, dne64 x) : TT n_impl_LogLines [.one (.sl tDne l)] [] (.tup [(false, [.row 0]), (false, [cI (logM l).2])]) [.row t_string .str (logM l).1] := by
  refine r_impl_LogLines l ⟨_, c_impl_many_Done l, ?_⟩
  by_cases hl : (l.length : Int) > 4096
  · rw [if_pos hl]
    exact ifN_t (by decide) ⟨by simp [logM, hl], by simp [logM, hl]⟩
  rw [if_neg hl]
  refine ifN_f rfl ⟨fun m i r => 0 ≤ i ∧ i ≤ l.length ∧ m = (l.length - i).toNat ∧ r = (l.take i.toNat).map doneT, ⟨_, rfl, by omega, by omega, rfl, by simp⟩, ?_⟩
  rintro m i r ⟨h0, h1, rfl, rfl⟩
  refine ifP (fun hlt => ?_) (fun hge => ?_)
  · have hx := hw (l.getD i.toNat dDne) (getD_mem (by omega))
    have ht := take_succ_getD (l := l) (i := i.toNat) (by omega) dDne
    revert hx ht
    generalize l.getD i.toNat dDne = x
    intro hx ht
    have s1 := itoaB_size x.1; have s2 := itoaB_size x.2.1; have s3 := itoaB_size x.2.2.1; have s4 := itoaB_size x.2.2.2.1
    rw [w64 (x := i + 1) (by omega)]
    refine ⟨⟨h0, hlt⟩, _, c_impl_decimal _ hx.1, ?_, ?_, _, c_impl_decimal _ hx.2.1, ?_, ?_, _, c_impl_decimal _ hx.2.2.1, ?_, ?_, _, c_impl_decimal _ hx.2.2.2, ?_, ?_, _, ?_, rfl, by omega, by omega, rfl, ?_⟩
    case refine_10 => rw [toNat_succ h0, ht, List.map_append]; rfl
    case refine_8 => simp only [List.length_map, List.length_take, List.length_cons, List.length_nil]; omega
    case refine_9 => omega
    all_goals (simp only [size_append, size_lit, List.length_cons, List.length_nil]; omega)
  · rw [List.take_of_length_le (by omega)]
    exact ⟨by simp [logM, hl], by simp [logM, hl]⟩
theorem c_laws_FnExactLogLines (p : List Dne) (hw : Ty.wf (.slice tDne) p) : TT n_laws_FnExactLogLines [.one (.sl tDne p)] [] (eB true) [] := by
  have hq : ∀ x ∈ p, dne64 x := fun x hx => by
    obtain ⟨a, b, c, d, _⟩ := hw.2 x hx
    exact ⟨i64_wf a, i64_wf b, i64_wf c, i64_wf d⟩
  refine r_laws_FnExactLogLines p ⟨_, c_sz_DoneS p 1048576 hw (by omega), ifP (fun _ => ⟨rfl, rfl⟩) (fun h0 => ?_)⟩
  have hs := (sz_DoneS_ok (l := p) (n := 1048576) (by omega)).2 (by omega)
  have hm : (logM p).1.length ≤ 1048576 := by
    unfold logM
    split
    · simp
    · simp only [List.length_map]; exact hs
  have t := c_to_DoneS p hs
  have t1 := c_spec_LogLines p hq
  have t2 := c_impl_LogLines p hq
  have te := c_eq_StringS (logM p).1 hm
  have th := c_held_StringS (logM p).1 hm 1 (by omega)
  refine ⟨_, t, _, _, t1, _, t, _, _, t2, _, te, ifB_f rfl (ifN_f rfl ⟨_, t, _, c_eq_DoneS p hs, ifB_f rfl ⟨_, _, c_mark_DoneS p hs 1 (by omega), ifP_f (by omega) ⟨_, te, ifB_f rfl (ifN_f rfl
    ⟨_, _, c_mark_StringS (logM p).1 hm 1 (by omega), _, th, ifP_f (by omega) (ifN_f rfl ⟨_, t, _, _, t2, _, te, ifB_f rfl (ifN_f rfl ⟨_, th, ifP_f (by omega) (ifN_f rfl ⟨rfl, rfl⟩)⟩)⟩)⟩)⟩⟩⟩)⟩
end Go.Ry
