/- One operation, the program's. No condition. -/
import Derived.Test.YtonmkhdbgofbpaaPOps5
set_option linter.unusedVariables false
set_option linter.unusedSimpArgs false
namespace Go.Ry
open Go.Proofs

theorem tk_of {x : Dat} {op a : Int} {st : List Int} (h : Fit x op a st) :
    (op = 4 ∨ op = 6 ∨ op = 8 ∨ op = 17 → tk x op a = 1) ∧ (9 ≤ op ∧ op ≤ 16 → tk x op a = 2) ∧ (op = 18 → tk x op a = 3) ∧
    (op = 19 → tk x op a = (takes (x.f.getD a.toNat dFb).1).size) ∧ (op = 1 ∨ op = 2 ∨ op = 3 ∨ op = 5 ∨ op = 7 ∨ op = 20 ∨ op = 25 → tk x op a = 0) := by
  refine ⟨fun e => ?_, fun e => ?_, fun e => ?_, fun e => ?_, fun e => ?_⟩
  · rcases e with rfl | rfl | rfl | rfl <;> simp [tk, effect] <;> rfl
  · have : op = 9 ∨ op = 10 ∨ op = 11 ∨ op = 12 ∨ op = 13 ∨ op = 14 ∨ op = 15 ∨ op = 16 := by omega
    rcases this with rfl | rfl | rfl | rfl | rfl | rfl | rfl | rfl <;> simp [tk, effect] <;> rfl
  · subst e; simp [tk, effect]; rfl
  · subst e
    have h1 := h.ha (.inl rfl)
    have h0 := h.rng.2.2.1 (.inl rfl)
    simp only [tk, effect]
    simp only [show ¬ ((19 : Int) = 1 ∨ (19 : Int) = 3 ∨ (19 : Int) = 20) by decide, show ¬ ((19 : Int) = 2 ∨ (19 : Int) = 5 ∨ (19 : Int) = 7) by decide, if_false]
    simp
    rw [← List.getD_eq_getElem?_getD, ← List.getD_eq_getElem?_getD, kindsD_at _ _ (by omega)]
  · rcases e with rfl | rfl | rfl | rfl | rfl | rfl | rfl <;> simp [tk, effect] <;> rfl
theorem bin_of {x : Dat} {op a : Int} {st : List Int} (h : Fit x op a st) (e : op = 15 ∨ op = 16) : bin (ar (argA x op a st) 0) ∧ bin (ar (argA x op a st) 1) := by
  have h2 := (tk_of h).2.1 (by omega)
  have hs : (effect op a (kindsD x.f)).1 = bBB := by rcases e with rfl | rfl <;> simp [effect]
  constructor
  · exact h.hb 0 (by omega) (by rw [hs]; decide)
  · exact h.hb 1 (by omega) (by rw [hs]; decide)

theorem c_impl_apply (x : Dat) (op a : Int) (st : List Int) (now : Int) (h : Fit x op a st) :
    TT n_impl_Data_apply [.one (.ptrB 0 0), .agg [cI op, cI a], .one (.sl tyInt st), eI now] (Dat.bx x.w :: x.os) (.one (.row 7))
      (Dat.bx (appM x op a (argA x op a st) (argB x op a st) now).1.w :: ((appM x op a (argA x op a st) (argB x op a st) now).1.os ++ [.row t_int tyInt (appM x op a (argA x op a st) (argB x op a st) now).2])) := by
  have hD := datOK_iff.1 h.hx
  have hbl := h.block
  have hop := c_impl_operands1 x op a (by have := hD.f; omega) hbl
  obtain ⟨r1, r2, r3, r4, r5⟩ := h.rng
  obtain ⟨t1, t2, t3, t4, t5⟩ := tk_of h
  have hbin := bin_of h
  have ht := h.ht
  have hl := h.hl
  have ha := h.ha
  have hA : (argA x op a st).length = tk x op a := by simp [argA]; omega
  have hB : (argB x op a st).length ≤ 4096 := by simp [argB]; omega
  have hkind : op = 19 → isKind (x.f.getD a.toNat dFb).1 = true := fun e => hD.kind (by have := ha (.inl e); have := r3 (.inl e); omega)
  have hcA := c_Clone_int (argA x op a st) (by rw [hA]; omega)
  have hcB := c_Clone_int (argB x op a st) (by omega)
  refine r_impl_Data_apply op a st now x.w x.g x.f x.a x.b x.c x.d ?_
  unfold v_impl_Data_apply
  have e1 : wI ((st.length : Int) - ((effect op a (kindsD x.f)).1.size : Int)) = ((st.length - tk x op a : Nat) : Int) := by
    rw [show (effect op a (kindsD x.f)).1.size = tk x op a from rfl]
    generalize tk x op a = tt at *
    rw [w64 (by omega)]; omega
  have e2 : (st.take (Int.toNat (st.length : Int))).drop (Int.toNat ((st.length - tk x op a : Nat) : Int)) = argA x op a st := by simp [argA]
  have e3 : (st.take (Int.toNat ((st.length - tk x op a : Nat) : Int))).drop (Int.toNat 0) = argB x op a st := by simp [argB]
  refine ⟨_, _, hop, ?_⟩
  rw [e1, e2, e3]
  refine ⟨by omega, _, hcA, by omega, _, hcB, ?_⟩
  generalize argA x op a st = A at *
  generalize argB x op a st = B at *
  refine ⟨fun b g f p q r s B' A' => b = (op == 1 || op == 2) ∧ g = x.g ∧ f = x.f ∧ p = x.a ∧ q = x.b ∧ r = x.c ∧ s = x.d ∧ B' = B ∧ A' = A, ?_, ?_⟩
  · exact ifE (fun e => ⟨rfl, rfl, by simp [e], rfl, rfl, rfl, rfl, rfl, rfl, rfl, rfl⟩) fun e => ⟨rfl, rfl, by simp [e], rfl, rfl, rfl, rfl, rfl, rfl, rfl, rfl⟩
  rintro b g f p q r s B' A' ⟨rfl, rfl, rfl, rfl, rfl, rfl, rfl, rfl, rfl⟩
  refine ifB_cases (fun e => ?_) fun e => ?_
  · have e' : op = 1 ∨ op = 2 := by simpa using e
    exact ⟨by simp; omega, rfl, by simp [appM, e']⟩
  have n12 : ¬ (op = 1 ∨ op = 2) := by simpa using e
  refine ifE (fun e => ?_) fun n3 => ?_
  · have := r1 (.inl e); have := hD.g
    exact ⟨by omega, by simp; omega, rfl, by simp [appM, e]⟩
  refine ifE (fun e => ?_) fun n4 => ?_
  · have := r1 (.inr e); have := hD.g; have := t1 (.inl e)
    exact ⟨by omega, by omega, rfl, by simp [appM, e, ar]⟩
  refine ifE (fun e => ?_) fun n5 => ?_
  · have := r2 (.inl e); have := hD.a
    exact ⟨by omega, _, c_impl_bit _, by simp; omega, rfl, by simp [appM, e]⟩
  refine ifE (fun e => ?_) fun n6 => ?_
  · have := r2 (.inr (.inl e)); have := hD.c; have := t1 (.inr (.inl e))
    exact ⟨by omega, by omega, rfl, by simp [appM, e, ar]⟩
  refine ifE (fun e => ?_) fun n7 => ?_
  · have := r2 (.inr (.inr (.inl e))); have := hD.b
    exact ⟨by omega, _, c_impl_bit _, by simp; omega, rfl, by simp [appM, e]⟩
  refine ifE (fun e => ?_) fun n8 => ?_
  · have := r2 (.inr (.inr (.inr e))); have := hD.c; have := hD.d; have := t1 (.inr (.inr (.inl e)))
    exact ⟨by omega, by omega, by omega, by omega, rfl, by simp [appM, e, ar]⟩
  refine ifE (fun e => ?_) fun n19 => ?_
  · have q1 := r3 (.inl e); have q2 := ha (.inl e)
    exact ⟨_, _, _, _, _, _, _, _, c_impl_block x a A' now q1 q2 (hkind e) (by rw [hA]; exact t4 e), by simp; omega, rfl, by simp [appM, e]⟩
  refine ifE (fun e => ?_) fun n20 => ?_
  · have q1 := r3 (.inr e); have q2 := ha (.inr e)
    exact ⟨by omega, by simp; omega, rfl, by simp [appM, e]⟩
  refine ifE (fun e => ?_) fun n25 => ?_
  · exact ⟨rfl, by simp [appM, e]⟩
  have hap : appM x op a A' B' now = (x.wrong (calcM op A').2, B' ++ [(calcM op A').1]) := by simp [appM, *]
  rw [hap]
  have hw : (x.wrong (calcM op A').2).os = x.os := by unfold Dat.wrong; split <;> rfl
  have hcal := c_impl_calculate x op A' (fun e17 => by
      by_cases e18 : op = 18
      · have := t3 e18; omega
      · have := t2 (by omega); omega) (by
      by_cases e17 : op = 17
      · have := t1 (by omega); omega
      · by_cases e18 : op = 18
        · have := t3 e18; omega
        · have := t2 (by omega); omega) (fun e => by have := t3 e; omega) hbin
  refine ⟨_, _, _, _, _, _, _, _, hcal, ?_, rfl, ?_⟩
  · simp only [List.length_cons, List.length_nil]; omega
  · rw [hw]; rfl
end Go.Ry
