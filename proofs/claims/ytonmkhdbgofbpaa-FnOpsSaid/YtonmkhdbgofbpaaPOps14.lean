/- The law of operations: what an operation leaves. No condition. -/
import Derived.Test.YtonmkhdbgofbpaaPOps13
set_option linter.unusedVariables false
set_option linter.unusedSimpArgs false
namespace Go.Ry
open Go.Proofs

theorem checked_val (k p q : Int) : isVal (checkedM k p q).1 = true := by
  unfold checkedM
  split
  · decide
  · split
    · assumption
    · decide
theorem allVal_set {g : List Int} (h : g.all isVal = true) (i : Nat) {v : Int} (hv : isVal v = true) : (g.set i v).all isVal = true := by
  rw [List.all_eq_true]
  intro x hx
  rcases List.mem_or_eq_of_mem_set hx with k | rfl
  · exact List.all_eq_true.1 h _ k
  · exact hv
theorem at_ite (P : Dat → Prop) {c : Prop} [Decidable c] {p q : Dat × List Int} (hp : c → P p.1) (hq : ¬ c → P q.1) : P (if c then p else q).1 := by
  split
  · exact hp ‹_›
  · exact hq ‹_›
theorem wrong_at (P : Dat → Prop) {x : Dat} (b : Bool) (h : P x) (h' : P { x with w := up x.w }) : P (x.wrong b) := by
  unfold Dat.wrong
  split
  · exact h'
  · exact h
/-- Right data stay right. -/
theorem appM_ok {x : Dat} {op a : Int} {st : List Int} {now : Int} (h : Fit x op a st) (hA : ∀ i, isVal (ar (argA x op a st) i) = true) (ht : isTm now = true) :
    DatOK (appM x op a (argA x op a st) (argB x op a st) now).1 := by
  have hD := datOK_iff.1 h.hx
  have hl := appM_len x op a (argA x op a st) (argB x op a st) now
  unfold Dat.like at hl
  obtain ⟨l1, l2, l3, l4, l5, l6⟩ := hl
  have hw : isTm (appM x op a (argA x op a st) (argB x op a st) now).1.w = true := by
    unfold appM
    repeat' (first | refine at_ite (fun y => isTm y.w = true) (fun _ => ?_) (fun _ => ?_) | fail)
    all_goals first
      | exact hD.w
      | exact wrong_at (fun y => isTm y.w = true) _ hD.w (up_tm hD.w)
  have hg : (appM x op a (argA x op a st) (argB x op a st) now).1.g.all isVal = true := by
    unfold appM
    repeat' (first | refine at_ite (fun y => y.g.all isVal = true) (fun _ => ?_) (fun _ => ?_) | fail)
    all_goals first
      | exact hD.gs
      | exact allVal_set hD.gs _ (hA 0)
      | exact wrong_at (fun y => y.g.all isVal = true) _ hD.gs hD.gs
  have hf : (appM x op a (argA x op a st) (argB x op a st) now).1.f.all fbOK = true := by
    have hs : op = 19 → (x.f.set a.toNat (stepM (x.f.getD a.toNat dFb) (argA x op a st) now).1).all fbOK = true := fun e => by
      have q1 := h.rng.2.2.1 (.inl e); have q2 := h.ha (.inl e)
      have hF : FsOK x.f.length (kindsD x.f) x.f := ⟨rfl, hD.fs, rfl⟩
      have hj : a.toNat < x.f.length := by omega
      have v0 : isVal 0 = true := by decide
      have a1 := hA 1
      have a2 := hA 2
      generalize argA x op a st = A at *
      unfold stepM
      by_cases k1 : (x.f.getD a.toNat dFb).1 = 1
      · rw [if_pos k1]; exact (hF.set hj a1 ht).2.1
      · rw [if_neg k1]
        by_cases k2 : (x.f.getD a.toNat dFb).1 = 2
        · rw [if_pos k2]; exact (hF.set hj a2 ht).2.1
        · rw [if_neg k2]
          by_cases k3 : (x.f.getD a.toNat dFb).1 = 3
          · rw [if_pos k3]; exact (hF.set hj v0 ht).2.1
          · rw [if_neg k3]; exact (hF.set hj v0 ht).2.1
    unfold appM
    repeat' (first | refine at_ite (fun y => y.f.all fbOK = true) (fun e => ?_) (fun _ => ?_) | fail)
    all_goals first
      | exact hD.fs
      | exact hs ‹_›
      | exact wrong_at (fun y => y.f.all fbOK = true) _ hD.fs hD.fs
  exact ⟨by rw [l1]; exact hD.g, by rw [l2]; exact hD.f, by rw [l3]; exact hD.a, by rw [l4]; exact hD.b, by rw [l5]; exact hD.c, by rw [l6]; exact hD.d, hw, hg, hf⟩
/-- What is left of the stack begins as it was. -/
theorem appM_low (x : Dat) (op a : Int) (A B : List Int) (now : Int) : ∃ t, (appM x op a A B now).2 = B ++ t := by
  have ite : ∀ {c : Prop} [Decidable c] {p q : Dat × List Int}, (∃ t, p.2 = B ++ t) → (∃ t, q.2 = B ++ t) → ∃ t, (if c then p else q).2 = B ++ t := by
    intro c _ p q hp hq
    split
    · exact hp
    · exact hq
  unfold appM
  repeat' (first | refine ite ?_ ?_ | fail)
  all_goals first
    | exact ⟨_, rfl⟩
    | exact ⟨[], by simp⟩
end Go.Ry
