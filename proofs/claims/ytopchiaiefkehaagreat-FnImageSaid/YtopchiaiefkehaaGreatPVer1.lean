/- The verifier, instruction by instruction: the program's and the reference's. No condition. -/
import Derived.Test.YtopchiaiefkehaaGreatPEff
set_option linter.unusedVariables false
set_option linter.unusedSimpArgs false
namespace Go.Ry
open Go.Proofs

abbrev OI := Int × Int × Bool × Bool × Unit
abbrev OS := Int × Int × ByteArray × Unit
@[reducible] def tOI : Ty := .pair (.int .i64) (.pair (.int .i64) (.pair .bool (.pair .bool .unit)))
@[reducible] def tOS : Ty := .pair (.int .i64) (.pair (.int .i64) (.pair .str .unit))
@[reducible] def vBox (ks : List Int) (n : Int) (s : ByteArray) (k : Nat) : Ob := .box [.sl (.int .i64) ks, cI n, .str s, .row k]
theorem c_impl_effect (op a : Int) (ks : List Int) (n : Int) (s : ByteArray) (o : List OI) (h : blockIn op a ks) :
    TT n_impl_verifier_effect [.one (.ptrB 0 0), .agg [cI op, cI a]] [vBox ks n s 1, .row t_impl_structure tOI o] (tupSS (effect op a ks).1 (effect op a ks).2) [vBox ks n s 1, .row t_impl_structure tOI o] := by
  refine r_impl_verifier_effect op a ks n s o ?_
  unfold v_impl_verifier_effect
  refine ⟨fun b r => b = (op == 1 || (op == 3 || op == 20)) ∧ o = r, ?_, ?_⟩
  · repeat' (first | refine ifB_cases (fun _ => ?_) (fun _ => ?_) | refine ⟨rfl, ?_⟩ | fail)
    all_goals simp [*]
  rintro b r ⟨rfl, rfl⟩
  refine ifB_cases (fun g1 => ?_) (fun g1 => ?_)
  · simp at g1; rcases g1 with rfl | rfl | rfl <;> simp_all [effect]
  refine ⟨fun b r => b = (op == 2 || (op == 5 || op == 7)) ∧ o = r, ?_, ?_⟩
  · repeat' (first | refine ifB_cases (fun _ => ?_) (fun _ => ?_) | refine ⟨rfl, ?_⟩ | fail)
    all_goals simp [*]
  rintro b r ⟨rfl, rfl⟩
  refine ifB_cases (fun g2 => ?_) (fun g2 => ?_)
  · simp at g2; rcases g2 with rfl | rfl | rfl <;> simp_all [effect]
  refine ifE (fun h4 => ?_) (fun h4 => ?_)
  · simp [effect, *]
  refine ⟨fun b r => b = (op == 6 || (op == 8 || op == 21)) ∧ o = r, ?_, ?_⟩
  · repeat' (first | refine ifB_cases (fun _ => ?_) (fun _ => ?_) | refine ⟨rfl, ?_⟩ | fail)
    all_goals simp [*]
  rintro b r ⟨rfl, rfl⟩
  refine ifB_cases (fun g6 => ?_) (fun g6 => ?_)
  · simp at g6; rcases g6 with rfl | rfl | rfl <;> simp_all [effect]
  refine ⟨fun b r => b = (op == 9 || (op == 10 || (op == 11 || op == 12))) ∧ o = r, ?_, ?_⟩
  · repeat' (first | refine ifB_cases (fun _ => ?_) (fun _ => ?_) | refine ⟨rfl, ?_⟩ | fail)
    all_goals simp [*]
  rintro b r ⟨rfl, rfl⟩
  refine ifB_cases (fun g9 => ?_) (fun g9 => ?_)
  · simp at g9; rcases g9 with rfl | rfl | rfl | rfl <;> simp_all [effect]
  refine ⟨fun b r => b = (op == 13 || op == 14) ∧ o = r, ?_, ?_⟩
  · repeat' (first | refine ifB_cases (fun _ => ?_) (fun _ => ?_) | refine ⟨rfl, ?_⟩ | fail)
    all_goals simp [*]
  rintro b r ⟨rfl, rfl⟩
  refine ifB_cases (fun g13 => ?_) (fun g13 => ?_)
  · simp at g13; rcases g13 with rfl | rfl <;> simp_all [effect]
  refine ⟨fun b r => b = (op == 15 || op == 16) ∧ o = r, ?_, ?_⟩
  · repeat' (first | refine ifB_cases (fun _ => ?_) (fun _ => ?_) | refine ⟨rfl, ?_⟩ | fail)
    all_goals simp [*]
  rintro b r ⟨rfl, rfl⟩
  refine ifB_cases (fun g15 => ?_) (fun g15 => ?_)
  · simp at g15; rcases g15 with rfl | rfl <;> simp_all [effect]
  refine ifE (fun h17 => ?_) (fun h17 => ?_)
  · simp_all [effect]
  refine ifE (fun h18 => ?_) (fun h18 => ?_)
  · simp_all [effect]
  refine ifE (fun h19 => ?_) (fun h19 => ?_)
  · obtain ⟨k1, k2, k3⟩ := h h19
    refine ⟨⟨k1, k2⟩, _, c_impl_takes _ k3, ?_⟩
    simp_all [effect]
  · simp_all [effect]
end Go.Ry
