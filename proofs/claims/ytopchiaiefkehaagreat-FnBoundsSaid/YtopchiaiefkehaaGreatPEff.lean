/- What an instruction takes and puts: the program's and the reference's. No condition. -/
import Derived.Test.YtopchiaiefkehaaGreatPNum2
import Derived.Test.YtopchiaiefkehaaGreatPStr
set_option linter.unusedVariables false
set_option linter.unusedSimpArgs false
namespace Go.Ry
open Go.Proofs

/-! ### what an instruction takes and puts -/
@[reducible] def bI : ByteArray := ⟨#[105]⟩
@[reducible] def bB : ByteArray := ⟨#[98]⟩
@[reducible] def bII : ByteArray := ⟨#[105, 105]⟩
@[reducible] def bBB : ByteArray := ⟨#[98, 98]⟩
@[reducible] def bBII : ByteArray := ⟨#[98, 105, 105]⟩
def effect (op a : Int) (ks : List Int) : ByteArray × ByteArray :=
  if op = 1 ∨ op = 3 ∨ op = 20 then (e0, bI) else if op = 2 ∨ op = 5 ∨ op = 7 then (e0, bB) else if op = 4 then (bI, e0) else if op = 6 ∨ op = 8 ∨ op = 21 then (bB, e0)
  else if op = 9 ∨ op = 10 ∨ op = 11 ∨ op = 12 then (bII, bI) else if op = 13 ∨ op = 14 then (bII, bB) else if op = 15 ∨ op = 16 then (bBB, bB) else if op = 17 then (bB, bB)
  else if op = 18 then (bBII, bI) else if op = 19 then (takes (ks.getD a.toNat 0), bB) else (e0, e0)
@[reducible] def tupSS (a b : ByteArray) : Ent := .tup [(false, [.str a]), (false, [.str b])]
def blockIn (op a : Int) (ks : List Int) : Prop := op = 19 → 0 ≤ a ∧ a < ks.length ∧ isKind (ks.getD a.toNat 0) = true
theorem c_spec_l04Sign (op a : Int) (ks : List Int) (h : blockIn op a ks) :
    TT n_spec_l04Sign [.agg [cI op, cI a], .one (.sl (.int .i64) ks)] [] (tupSS (effect op a ks).1 (effect op a ks).2) [] := by
  refine r_spec_l04Sign op a ks ?_
  unfold v_spec_l04Sign
  refine ⟨fun b => b = (op == 1 || (op == 3 || op == 20)), ?_, ?_⟩
  · repeat' (first | refine ifB_cases (fun _ => ?_) (fun _ => ?_) | refine ⟨rfl, ?_⟩ | fail)
    all_goals simp [*]
  rintro b rfl
  refine ifB_cases (fun g1 => ?_) (fun g1 => ?_)
  · simp at g1; rcases g1 with rfl | rfl | rfl <;> simp_all [effect]
  refine ⟨fun b => b = (op == 2 || (op == 5 || op == 7)), ?_, ?_⟩
  · repeat' (first | refine ifB_cases (fun _ => ?_) (fun _ => ?_) | refine ⟨rfl, ?_⟩ | fail)
    all_goals simp [*]
  rintro b rfl
  refine ifB_cases (fun g2 => ?_) (fun g2 => ?_)
  · simp at g2; rcases g2 with rfl | rfl | rfl <;> simp_all [effect]
  refine ifE (fun h4 => ?_) (fun h4 => ?_)
  · simp [effect, *]
  refine ⟨fun b => b = (op == 6 || (op == 8 || op == 21)), ?_, ?_⟩
  · repeat' (first | refine ifB_cases (fun _ => ?_) (fun _ => ?_) | refine ⟨rfl, ?_⟩ | fail)
    all_goals simp [*]
  rintro b rfl
  refine ifB_cases (fun g6 => ?_) (fun g6 => ?_)
  · simp at g6; rcases g6 with rfl | rfl | rfl <;> simp_all [effect]
  refine ⟨fun b => b = (op == 9 || (op == 10 || (op == 11 || op == 12))), ?_, ?_⟩
  · repeat' (first | refine ifB_cases (fun _ => ?_) (fun _ => ?_) | refine ⟨rfl, ?_⟩ | fail)
    all_goals simp [*]
  rintro b rfl
  refine ifB_cases (fun g9 => ?_) (fun g9 => ?_)
  · simp at g9; rcases g9 with rfl | rfl | rfl | rfl <;> simp_all [effect]
  refine ⟨fun b => b = (op == 13 || op == 14), ?_, ?_⟩
  · repeat' (first | refine ifB_cases (fun _ => ?_) (fun _ => ?_) | refine ⟨rfl, ?_⟩ | fail)
    all_goals simp [*]
  rintro b rfl
  refine ifB_cases (fun g13 => ?_) (fun g13 => ?_)
  · simp at g13; rcases g13 with rfl | rfl <;> simp_all [effect]
  refine ⟨fun b => b = (op == 15 || op == 16), ?_, ?_⟩
  · repeat' (first | refine ifB_cases (fun _ => ?_) (fun _ => ?_) | refine ⟨rfl, ?_⟩ | fail)
    all_goals simp [*]
  rintro b rfl
  refine ifB_cases (fun g15 => ?_) (fun g15 => ?_)
  · simp at g15; rcases g15 with rfl | rfl <;> simp_all [effect]
  refine ifE (fun h17 => ?_) (fun h17 => ?_)
  · simp_all [effect]
  refine ifE (fun h18 => ?_) (fun h18 => ?_)
  · simp_all [effect]
  refine ifE (fun h19 => ?_) (fun h19 => ?_)
  · obtain ⟨k1, k2, k3⟩ := h h19
    refine ⟨⟨k1, k2⟩, _, c_spec_l03Takes _ k3, ?_⟩
    simp_all [effect]
  · simp_all [effect]
end Go.Ry
