/- Function blocks: one step, the program's and the reference's. No condition. -/
import Derived.Test.YtonmkhdbgofbpaaPNum2
import Derived.Test.YtonmkhdbgofbpaaPStr
set_option linter.unusedVariables false
set_option linter.unusedSimpArgs false
namespace Go.Ry
open Go.Proofs

abbrev FbT := Int × Bool × Int × Int × Unit
@[reducible] def tFb : Ty := .pair (.int .i64) (.pair .bool (.pair (.int .i64) (.pair (.int .i64) .unit)))
@[reducible] def dFb : FbT := ((0 : Int), (false, ((0 : Int), ((0 : Int), ()))))
def m0 (n : Int) : Int := if 0 > n then 0 else n
def up (n : Int) : Int := if (2147483647 : Int) < wI (n + 1) then 2147483647 else wI (n + 1)
def timed (n now s : Int) : Int := if m0 n < m0 (wI (now - s)) then m0 n else m0 (wI (now - s))
/-- What a block makes of what it takes. -/
def stepF (f : FbT) (a b : Bool) (n now : Int) : FbT × Bool :=
  if f.1 = 1 then (if a = false then ((1, false, 0, 0, ()), false) else
      let s := if f.2.1 = true then f.2.2.1 else now
      ((1, true, s, timed n now s, ()), decide (timed n now s ≥ n)))
  else if f.1 = 2 then
    let c := if b = true then 0 else if a = true ∧ f.2.1 = false then up f.2.2.2.1 else f.2.2.2.1
    ((2, a, f.2.2.1, c, ()), decide (c ≥ n))
  else if f.1 = 3 then ((3, a, f.2.2.1, f.2.2.2.1, ()), a && !f.2.1)
  else ((f.1, a || (f.2.1 && !b), f.2.2.1, f.2.2.2.1, ()), a || (f.2.1 && !b))

theorem getD_setL {α : Type} {l : List α} {k : Nat} {x d : α} (h : k < l.length) : (l.set k x).getD k d = x := by
  simp [List.getD_eq_getElem?_getD, h]

theorem c_impl_Fb_step (k : Nat) (a b : Bool) (n now : Int) (r : List FbT) (hk : k < r.length) :
    TT n_impl_Fb_step [.one (.ptrE 0 k 0), eB a, eB b, eI n, eI now] [.row t_impl_Fb tFb r] (eB (stepF (r.getD k dFb) a b n now).2)
      [.row t_impl_Fb tFb (r.set k (stepF (r.getD k dFb) a b n now).1)] := by
  refine r_impl_Fb_step k a b n now r ?_
  unfold v_impl_Fb_step
  have gs : ∀ x : FbT, (r.set k x).getD k dFb = x := fun x => getD_setL hk
  have gl : ∀ x : FbT, (r.set k x).length = r.length := fun x => by simp
  rcases hf : r.getD k dFb with ⟨kd, on, st, ct, u⟩
  cases u
  have hd : ((0 : Int), (false, ((0 : Int), ((0 : Int), ())))) = dFb := rfl
  simp only [hd, hf, gs, List.set_set]
  refine ifE (fun h1 => ?_) fun h1 => ?_
  · subst h1
    cases a
    · exact ⟨by simp [stepF], by simp [stepF]⟩
    · refine ⟨fun x => x = r.set k (1, true, (if on = true then st else now), ct, ()), ?_, ?_⟩
      · cases on
        · exact ⟨trivial, rfl⟩
        · refine ⟨trivial, ?_⟩
          have : r.set k (1, true, st, ct, ()) = r := by
            rw [← hf, List.getD_eq_getElem?_getD, List.getElem?_eq_getElem hk]; simp
          simpa using this.symm
      · intro r8 h8
        subst h8
        simp only [gs, List.set_set]
        exact ⟨by simp [stepF, timed, m0], by simp [stepF, timed, m0]⟩
  refine ifE (fun h2 => ?_) fun h2 => ?_
  · subst h2
    have hr : ∀ c, c = ct → r.set k (2, on, st, c, ()) = r := fun c hc => by
      rw [hc, ← hf, List.getD_eq_getElem?_getD, List.getElem?_eq_getElem hk]; simp
    refine ⟨fun x => x = r.set k (2, on, st, (if b = true then 0 else if a = true ∧ on = false then up ct else ct), ()), ?_, ?_⟩
    · cases b
      · refine ⟨fun x y => x = (a && !on) ∧ y = r, ?_, ?_⟩
        · cases a
          · exact ⟨trivial, rfl, rfl⟩
          · exact ⟨trivial, by simp, rfl⟩
        · rintro x y ⟨rfl, rfl⟩
          simp only [hf]
          cases a <;> cases on <;> first
            | exact ⟨trivial, (hr _ (by simp)).symm⟩
            | exact ⟨trivial, by simp [up]⟩
      · exact ⟨trivial, by simp⟩
    · intro r13 h13
      subst h13
      simp only [gs, List.set_set]
      exact ⟨by simp [stepF], by simp [stepF]⟩
  refine ifE (fun h3 => ?_) fun h3 => ?_
  · subst h3
    cases a <;> exact ⟨by simp [stepF], by simp [stepF]⟩
  · have hs : stepF (kd, on, st, ct, ()) a b n now = ((kd, a || (on && !b), st, ct, ()), a || (on && !b)) := by simp [stepF, h1, h2, h3]
    rw [hs]
    cases a
    · cases on
      · exact ⟨rfl, rfl⟩
      · cases b <;> exact ⟨rfl, rfl⟩
    · exact ⟨rfl, rfl⟩

theorem c_spec_l03Timer (on a : Bool) (st ct n now : Int) : TT n_spec_l03Timer [.agg [cI 1, .bool on, cI st, cI ct], eB a, eI n, eI now] []
    (.tup [(true, [cI 1, .bool (stepF (1, on, st, ct, ()) a false n now).1.2.1, cI (stepF (1, on, st, ct, ()) a false n now).1.2.2.1, cI (stepF (1, on, st, ct, ()) a false n now).1.2.2.2.1]), (false, [.bool (stepF (1, on, st, ct, ()) a false n now).2])]) [] := by
  refine r_spec_l03Timer 1 on st ct a n now ?_
  unfold v_spec_l03Timer
  cases a
  · exact ⟨by simp [stepF], rfl⟩
  · refine ⟨fun x y => x = true ∧ y = (if on = true then st else now), ?_, ?_⟩
    · cases on
      · exact ⟨rfl, rfl, rfl, rfl⟩
      · exact ⟨rfl, rfl, rfl, rfl⟩
    · rintro x y ⟨rfl, rfl⟩
      exact ⟨by simp [stepF, timed, m0], rfl⟩
theorem c_spec_l03Counter (on a b : Bool) (st ct n : Int) (now : Int) : TT n_spec_l03Counter [.agg [cI 2, .bool on, cI st, cI ct], eB a, eB b, eI n] []
    (.tup [(true, [cI 2, .bool (stepF (2, on, st, ct, ()) a b n now).1.2.1, cI (stepF (2, on, st, ct, ()) a b n now).1.2.2.1, cI (stepF (2, on, st, ct, ()) a b n now).1.2.2.2.1]), (false, [.bool (stepF (2, on, st, ct, ()) a b n now).2])]) [] := by
  refine r_spec_l03Counter 2 on st ct a b n ?_
  unfold v_spec_l03Counter
  refine ⟨fun x => x = (if b = true then 0 else if a = true ∧ on = false then up ct else ct), ?_, ?_⟩
  · cases b <;> cases a <;> cases on <;> exact ⟨rfl, rfl, by simp [up]⟩
  · rintro x rfl
    exact ⟨by simp [stepF], rfl⟩
theorem c_spec_l03Step (f : FbT) (a b : Bool) (n now : Int) : TT n_spec_l03Step [.agg [cI f.1, .bool f.2.1, cI f.2.2.1, cI f.2.2.2.1], eB a, eB b, eI n, eI now] []
    (.tup [(true, [cI (stepF f a b n now).1.1, .bool (stepF f a b n now).1.2.1, cI (stepF f a b n now).1.2.2.1, cI (stepF f a b n now).1.2.2.2.1]), (false, [.bool (stepF f a b n now).2])]) [] := by
  obtain ⟨kd, on, st, ct, u⟩ := f
  cases u
  refine r_spec_l03Step kd on st ct a b n now ?_
  unfold v_spec_l03Step
  refine ifE (fun h1 => ?_) fun h1 => ?_
  · subst h1
    refine ⟨_, _, _, _, _, c_spec_l03Timer on a st ct n now, ?_, rfl⟩
    simp only [stepF]
    cases a <;> simp
  refine ifE (fun h2 => ?_) fun h2 => ?_
  · subst h2
    refine ⟨_, _, _, _, _, c_spec_l03Counter on a b st ct n now, ?_, rfl⟩
    simp [stepF]
  refine ifE (fun h3 => ?_) fun h3 => ?_
  · subst h3
    cases a <;> exact ⟨by simp [stepF], rfl⟩
  · have hs : stepF (kd, on, st, ct, ()) a b n now = ((kd, a || (on && !b), st, ct, ()), a || (on && !b)) := by simp [stepF, h1, h2, h3]
    rw [hs]
    cases a
    · cases on
      · exact ⟨rfl, rfl⟩
      · cases b <;> exact ⟨rfl, rfl⟩
    · exact ⟨rfl, rfl⟩
end Go.Ry
