/- Calculations and blocks on data. No condition. -/
import Derived.Test.YtonmkhdbgofbpaaPOps2
set_option linter.unusedVariables false
set_option linter.unusedSimpArgs false
namespace Go.Ry
open Go.Proofs

/-! ### calculations -/
def rawM (k x y : Int) : Int := if k = 0 then wI (x + y) else if k = 1 then wI (x - y) else if k = 2 then wI (x * y) else wI (Int.tdiv x y)
def checkedM (k x y : Int) : Int × Bool :=
  if (k ≠ 0 ∧ k ≠ 1 ∧ k ≠ 2) ∧ y = 0 then (0, true) else if isVal (rawM k x y) = true then (rawM k x y, false) else (0, true)
@[reducible] def tup2 (n : Int) (b : Bool) : Ent := .tup [(false, [cI n]), (false, [.bool b])]
theorem c_impl_checked (k x y : Int) : TT n_impl_checked [eI k, eI x, eI y] [] (tup2 (checkedM k x y).1 (checkedM k x y).2) [] := by
  refine r_impl_checked k x y ?_
  unfold v_impl_checked
  refine ⟨fun n => n = rawM k x y ∧ ¬ ((k ≠ 0 ∧ k ≠ 1 ∧ k ≠ 2) ∧ y = 0), ?_, ?_⟩
  · refine ifE (fun h => ⟨by simp [rawM, h], by simp [h]⟩) fun h0 => ifE (fun h => ⟨by simp [rawM, h], by simp [h]⟩) fun h1 => ifE (fun h => ⟨by simp [rawM, h], by simp [h]⟩) fun h2 => ?_
    exact ifE (fun h => ⟨by simp [checkedM, h0, h1, h2, h], rfl⟩) fun h => ⟨h, by simp [rawM, h0, h1, h2], by simp [h]⟩
  · rintro n ⟨rfl, hn⟩
    refine ⟨_, c_impl_isValue _, ifB_cases (fun h => ?_) fun h => ?_⟩
    · simp only [Bool.not_eq_true'] at h
      exact ⟨by unfold checkedM; rw [if_neg hn, if_neg (by simp [h])], rfl⟩
    · simp only [Bool.not_eq_false'] at h
      exact ⟨by unfold checkedM; rw [if_neg hn, if_pos h], rfl⟩
theorem c_spec_l01Checked (k x y : Int) : TT n_spec_l01Checked [eI k, eI x, eI y] [] (tup2 (checkedM k x y).1 (checkedM k x y).2) [] := by
  refine r_spec_l01Checked k x y ?_
  unfold v_spec_l01Checked
  refine ⟨fun n => n = rawM k x y ∧ ¬ ((k ≠ 0 ∧ k ≠ 1 ∧ k ≠ 2) ∧ y = 0), ?_, ?_⟩
  · refine ifE (fun h => ⟨by simp [rawM, h], by simp [h]⟩) fun h0 => ifE (fun h => ⟨by simp [rawM, h], by simp [h]⟩) fun h1 => ifE (fun h => ⟨by simp [rawM, h], by simp [h]⟩) fun h2 => ?_
    exact ifE (fun h => ⟨by simp [checkedM, h0, h1, h2, h], rfl⟩) fun h => ⟨h, by simp [rawM, h0, h1, h2], by simp [h]⟩
  · rintro n ⟨rfl, hn⟩
    refine ⟨_, c_spec_l01Int _, ifB_cases (fun h => ?_) fun h => ?_⟩
    · simp only [Bool.not_eq_true'] at h
      exact ⟨by unfold checkedM; rw [if_neg hn, if_neg (by simp [h])], rfl⟩
    · simp only [Bool.not_eq_false'] at h
      exact ⟨by unfold checkedM; rw [if_neg hn, if_pos h], rfl⟩
/-- One wrong more. -/
def Dat.wrong (x : Dat) (b : Bool) : Dat := if b = true then { x with w := up x.w } else x
theorem c_spec_l06Math (x : Dat) (k p q : Int) : TT n_spec_l06Math [.agg x.cs, eI k, eI p, eI q] [] (.tup [(true, (x.wrong (checkedM k p q).2).cs), (false, [cI (checkedM k p q).1])]) [] := by
  obtain ⟨g, f, a, b, c, d, w⟩ := x
  refine r_spec_l06Math g f a b c d w k p q ⟨_, _, c_spec_l01Checked k p q, ifB_cases (fun h => ?_) fun h => ?_⟩
  · exact ⟨by rw [h]; rfl, rfl⟩
  · exact ⟨by rw [h]; rfl, rfl⟩

def ar (A : List Int) (i : Nat) : Int := A.getD i 0
def bin (n : Int) : Prop := n = 0 ∨ n = 1
def calcM (op : Int) (A : List Int) : Int × Bool :=
  if op = 13 then (bitI (decide (ar A 0 < ar A 1)), false) else if op = 14 then (bitI (ar A 0 == ar A 1), false) else if op = 15 then (wI (ar A 0 * ar A 1), false)
  else if op = 16 then ((if ar A 1 > ar A 0 then ar A 1 else ar A 0), false) else if op = 17 then (wI (1 - ar A 0), false)
  else if op = 18 then ((if ar A 0 = 1 then ar A 1 else ar A 2), false) else checkedM (wI (op - 9)) (ar A 0) (ar A 1)
theorem and_bin {x y : Int} (hx : bin x) (hy : bin y) : bits .and .i64 x y = wI (x * y) := by
  rcases hx with rfl | rfl <;> rcases hy with rfl | rfl <;> decide
theorem or_bin {x y : Int} (hx : bin x) (hy : bin y) : bits .or .i64 x y = if y > x then y else x := by
  rcases hx with rfl | rfl <;> rcases hy with rfl | rfl <;> decide
theorem c_impl_calculate (x : Dat) (op : Int) (A : List Int) (h1 : op ≠ 17 → 2 ≤ A.length) (h0 : 1 ≤ A.length) (h3 : op = 18 → 3 ≤ A.length) (hb : op = 15 ∨ op = 16 → bin (ar A 0) ∧ bin (ar A 1)) :
    TT n_impl_Data_calculate [.one (.ptrB 0 0), eI op, .one (.sl tyInt A)] (Dat.bx x.w :: x.os) (eI (calcM op A).1) (Dat.bx (x.wrong (calcM op A).2).w :: x.os) := by
  obtain ⟨g, f, a, b, c, d, w⟩ := x
  refine r_impl_Data_calculate op A w g f a b c d ?_
  unfold v_impl_Data_calculate
  refine ifE (fun h => ?_) fun n13 => ?_
  · have := h1 (by omega)
    exact ⟨by omega, by omega, _, c_impl_bit _, by simp [calcM, h]; rfl, by simp [calcM, h, Dat.wrong]⟩
  refine ifE (fun h => ?_) fun n14 => ?_
  · have := h1 (by omega)
    exact ⟨by omega, by omega, _, c_impl_bit _, by simp [calcM, h]; rfl, by simp [calcM, h, Dat.wrong]⟩
  refine ifE (fun h => ?_) fun n15 => ?_
  · have := h1 (by omega)
    obtain ⟨b0, b1⟩ := hb (.inl h)
    refine ⟨by omega, by omega, ?_, by simp [calcM, h, Dat.wrong]⟩
    have := and_bin b0 b1
    simpa [calcM, h, ar] using this
  refine ifE (fun h => ?_) fun n16 => ?_
  · have := h1 (by omega)
    obtain ⟨b0, b1⟩ := hb (.inr h)
    refine ⟨by omega, by omega, ?_, by simp [calcM, h, Dat.wrong]⟩
    have := or_bin b0 b1
    simpa [calcM, h, ar] using this
  refine ifE (fun h => ?_) fun n17 => ?_
  · exact ⟨by omega, by simp [calcM, h, ar], by simp [calcM, h, Dat.wrong]⟩
  refine ifE (fun h => ?_) fun n18 => ?_
  · have := h3 h
    refine ⟨by omega, ifE (fun e => ⟨by omega, ?_, by simp [calcM, h, Dat.wrong]⟩) fun e => ⟨by omega, ?_, by simp [calcM, h, Dat.wrong]⟩⟩
    · have e' : ar A 0 = 1 := e
      simp only [calcM, h, e']; simp [ar]
    · have e' : ¬ ar A 0 = 1 := e
      simp only [calcM, h, e']; simp [ar]
  have := h1 n17
  have hc : calcM op A = checkedM (wI (op - 9)) (ar A 0) (ar A 1) := by simp [calcM, n13, n14, n15, n16, n17, n18]
  rw [hc]
  refine ⟨by omega, by omega, _, _, c_impl_checked (wI (op - 9)) (ar A 0) (ar A 1), ifB_cases (fun h => ?_) fun h => ?_⟩
  · exact ⟨rfl, by rw [h]; rfl⟩
  · exact ⟨rfl, by rw [h]; rfl⟩

/-! ### blocks -/
/-- What the block of kind k takes from what is handed to it. -/
def stepM (f : FbT) (A : List Int) (now : Int) : FbT × Bool :=
  if f.1 = 1 then stepF f (ar A 0 == 1) false (ar A 1) now else if f.1 = 2 then stepF f (ar A 0 == 1) (ar A 1 == 1) (ar A 2) now
  else if f.1 = 3 then stepF f (ar A 0 == 1) false 0 now else stepF f (ar A 0 == 1) (ar A 1 == 1) 0 now
theorem c_impl_block (x : Dat) (a : Int) (A : List Int) (now : Int) (h0 : 0 ≤ a) (h1 : a < x.f.length) (hk : isKind (x.f.getD a.toNat dFb).1 = true) (hA : A.length = (takes (x.f.getD a.toNat dFb).1).size) :
    TT n_impl_Data_block [.one (.ptrB 0 0), eI a, .one (.sl tyInt A), eI now] (Dat.bx x.w :: x.os) (eI (bitI (stepM (x.f.getD a.toNat dFb) A now).2))
      (Dat.bx x.w :: Dat.os { x with f := x.f.set a.toNat (stepM (x.f.getD a.toNat dFb) A now).1 }) := by
  obtain ⟨g, f, a', b, c, d, w⟩ := x
  simp only at h1 hk hA ⊢
  refine r_impl_Data_block a A now w g f a' b c d ?_
  unfold v_impl_Data_block
  have hd : ((0 : Int), (false, ((0 : Int), ((0 : Int), ())))) = dFb := rfl
  have hn : a.toNat < f.length := by omega
  have hs : ∀ p q n, _ := fun p q n => c_impl_Fb_step a.toNat p q n now f hn
  simp only [hd]
  generalize hF : f.getD a.toNat dFb = F at *
  have hkk : F.1 = 1 ∨ F.1 = 2 ∨ F.1 = 3 ∨ F.1 = 4 := by
    simp only [isKind, within_iff] at hk; omega
  refine ⟨⟨h0, h1⟩, ?_⟩
  rcases hkk with e | e | e | e
  · rw [e] at hA
    have hA2 : A.length = 2 := hA
    refine ifE_t e ⟨by omega, by omega, _, _, hs _ _ _, _, c_impl_bit _, ?_, ?_⟩
    · simp [stepM, e, ar]
    · simp [stepM, e, ar]
  · rw [e] at hA
    have hA2 : A.length = 3 := hA
    refine ifE_f (by omega) (ifE_t e ⟨by omega, by omega, by omega, _, _, hs _ _ _, _, c_impl_bit _, ?_, ?_⟩)
    · simp [stepM, e, ar]
    · simp [stepM, e, ar]
  · rw [e] at hA
    have hA2 : A.length = 1 := hA
    refine ifE_f (by omega) (ifE_f (by omega) (ifE_t e ⟨by omega, _, _, hs _ _ _, _, c_impl_bit _, ?_, ?_⟩))
    · simp [stepM, e, ar]
    · simp [stepM, e, ar]
  · rw [e] at hA
    have hA2 : A.length = 2 := hA
    refine ifE_f (by omega) (ifE_f (by omega) (ifE_f (by omega) ⟨by omega, by omega, _, _, hs _ _ _, _, c_impl_bit _, ?_, ?_⟩))
    · simp [stepM, e, ar]
    · simp [stepM, e, ar]
end Go.Ry
