/- Equal programs. No condition. -/
import Derived.Test.YtopchiaiefkehaaGreatPEql1
import Derived.Test.YtopchiaiefkehaaGreatPVer6
set_option linter.unusedVariables false
set_option linter.unusedSimpArgs false
set_option synthInstance.maxSize 4000
namespace Go.Ry
open Go.Proofs

theorem nd_t {b : Prop} [Decidable b] (h : (!decide b) = true) : ¬ b := by simpa using h
theorem nd_f {b : Prop} [Decidable b] (h : (!decide b) = false) : b := by simpa using h
theorem same_next {α : Type} {a b : List α} {d : α} {i : Int} (h0 : 0 ≤ i) (h2 : ∀ j, j < i.toNat → a.getD j d = b.getD j d) (he : a.getD i.toNat d = b.getD i.toNat d) : ∀ j, j < (i + 1).toNat → a.getD j d = b.getD j d := by
  intro j hj
  rcases Nat.lt_or_ge j i.toNat with h8 | h8
  · exact h2 j h8
  · rw [show j = i.toNat by omega]; exact he
theorem ne_of_getD {α : Type} {a b : List α} {d : α} {i : Nat} (h : a.getD i d ≠ b.getD i d) : a ≠ b := fun e => h (by rw [e])

theorem beq_Task (x y : Tsk) : ((x.1 == y.1) && ((x.2.1 == y.2.1) && ((x.2.2.1 == y.2.2.1) && ((x.2.2.2.1 == y.2.2.2.1) && ((x.2.2.2.2.1 == y.2.2.2.2.1) && ((x.2.2.2.2.2.1 == y.2.2.2.2.2.1) && true)))))) = decide (x = y) := by
  obtain ⟨x0, x1, x2, x3, x4, x5, u⟩ := x
  obtain ⟨y0, y1, y2, y3, y4, y5, v⟩ := y
  rw [Bool.eq_iff_iff]
  simp [Prod.mk.injEq]
theorem beq_Instr (x y : Ins) : ((x.1 == y.1) && ((x.2.1 == y.2.1) && true)) = decide (x = y) := by
  obtain ⟨x0, x1, u⟩ := x
  obtain ⟨y0, y1, v⟩ := y
  rw [Bool.eq_iff_iff]
  simp [Prod.mk.injEq]
@[reducible] def sameP (ks : List Int) (rs : List Rou) (ts : List Tsk) (sf : List Bool) (ks' : List Int) (rs' : List Rou) (ts' : List Tsk) (sf' : List Bool) : Prop := ks = ks' ∧ rs = rs' ∧ ts = ts' ∧ sf = sf'
end Go.Ry
