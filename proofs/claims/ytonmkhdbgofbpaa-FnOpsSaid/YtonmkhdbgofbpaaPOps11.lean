/- What is drawn: data. No condition. -/
import Derived.Test.YtonmkhdbgofbpaaPOps10
set_option linter.unusedVariables false
set_option linter.unusedSimpArgs false
namespace Go.Ry
open Go.Proofs

theorem isTm_iff {n : Int} : isTm n = true ↔ 0 ≤ n ∧ n ≤ 2147483647 := by simp only [isTm, within_iff]
theorem isVal_iff {n : Int} : isVal n = true ↔ -2147483648 ≤ n ∧ n ≤ 2147483647 := by simp only [isVal, within_iff]
theorem timed_tm {n now s : Int} (hn : isVal n = true) : isTm (timed n now s) = true := by
  rw [isVal_iff] at hn
  rw [isTm_iff]
  unfold timed m0
  generalize wI (now - s) = d
  split <;> split <;> (try split) <;> omega
theorem up_tm {n : Int} (h : isTm n = true) : isTm (up n) = true := by
  rw [isTm_iff] at h ⊢
  unfold up
  rw [w64 (by omega)]
  split <;> omega
/-- A block stays right, and of its kind. -/
theorem step_ok {f : FbT} {a b : Bool} {n now : Int} (hf : fbOK f = true) (hn : isVal n = true) (ht : isTm now = true) : fbOK (stepF f a b n now).1 = true ∧ (stepF f a b n now).1.1 = f.1 := by
  obtain ⟨kd, on, st, ct, u⟩ := f
  have hk := fb_kind hf
  simp only [isKind, within_iff] at hk
  have hkk : kd = 1 ∨ kd = 2 ∨ kd = 3 ∨ kd = 4 := by omega
  rcases hkk with rfl | rfl | rfl | rfl
  · simp [fbOK] at hf
    cases a
    · simp [stepF, fbOK, isTm0]
    · cases on <;> simp [stepF, fbOK, timed_tm hn, ht, hf]
  · simp [fbOK] at hf
    cases a <;> cases b <;> cases on <;> simp [stepF, fbOK, up_tm hf.2, hf, isTm0]
  · simp [fbOK] at hf
    simp [stepF, fbOK, hf]
  · simp [fbOK] at hf
    simp [stepF, fbOK, hf]

theorem c_l06Bools : TT n_spec_l06Bools [eI 8] [] (.one (.row 0)) [.row t_bool .bool (List.replicate 8 false)] := by
  refine r_spec_l06Bools 8 ⟨fun m i r => 0 ≤ i ∧ i ≤ 8 ∧ m = (8 - i).toNat ∧ r = List.replicate i.toNat false, ⟨_, rfl, by omega, by omega, rfl, rfl⟩, ?_⟩
  rintro m i r ⟨h0, h1, rfl, rfl⟩
  refine ifP (fun hlt => ?_) (fun hge => ?_)
  · rw [w64 (by omega)]
    refine ⟨by simp; omega, _, ?_, rfl, by omega, by omega, rfl, ?_⟩
    · omega
    · rw [toNat_succ h0, List.replicate_succ']
  · have : i = 8 := by omega
    subst this
    exact ⟨rfl, rfl⟩
def newF (ks : List Int) : List FbT := ks.map fun k => (k, false, 0, 0, ())
theorem c_l06New (ks : List Int) (hk : ks.length ≤ 1024) : TT n_spec_l06New [.one (.sl tyInt ks)] [] (.agg [.row 0, .row 1, .row 2, .row 3, .row 4, .row 5, cI 0])
    [.row t_int tyInt (List.replicate 16 0), .row t_impl_Fb tFb (newF ks), .row t_bool .bool (List.replicate 8 false), .row t_bool .bool (List.replicate 8 false), .row t_bool .bool (List.replicate 8 false), .row t_bool .bool (List.replicate 8 false)] := by
  have hB := c_l06Bools
  refine r_spec_l06New ks ?_
  unfold v_spec_l06New
  refine ⟨fun g f a b c d => g = List.replicate 16 0 ∧ f = [] ∧ a = List.replicate 8 false ∧ b = List.replicate 8 false ∧ c = List.replicate 8 false ∧ d = List.replicate 8 false, ?_, ?_⟩
  · repeat' (first
      | exact ⟨rfl, rfl, rfl, rfl, rfl, rfl, rfl, rfl⟩
      | exact (rfl : (16 : Int) = 16)
      | exact ⟨by decide, by decide⟩
      | refine ⟨_, hB, ?_⟩
      | refine ⟨?_, ?_⟩
      | fail)
  · rintro g f a b c d ⟨rfl, rfl, rfl, rfl, rfl, rfl⟩
    refine ⟨fun m i g f a b c d => 0 ≤ i ∧ i ≤ ks.length ∧ m = (ks.length - i).toNat ∧ f = newF (ks.take i.toNat) ∧ g = List.replicate 16 0 ∧ a = List.replicate 8 false ∧ b = List.replicate 8 false ∧ c = List.replicate 8 false ∧ d = List.replicate 8 false, ⟨_, rfl, rfl, by omega, by omega, rfl, rfl, rfl, rfl, rfl, rfl, rfl⟩, ?_⟩
    rintro m i g f a b c d ⟨h0, h1, rfl, rfl, rfl, rfl, rfl, rfl, rfl⟩
    refine ifP (fun hlt => ?_) (fun hge => ?_)
    · rw [w64 (by omega)]
      refine ⟨⟨h0, hlt⟩, by simp [newF]; omega, _, ?_, rfl, rfl, by omega, by omega, rfl, ?_, rfl, rfl, rfl, rfl, rfl⟩
      · omega
      · rw [toNat_succ h0, take_succ_getD (by omega) 0]; simp [newF]
    · rw [List.take_of_length_le (by omega)]
      exact ⟨rfl, rfl⟩
/-! ### what is drawn, as functions -/
def NxP (k : Int) (l : List Int) (p q : Int) (r : Int × Int × Int) : Prop :=
  (0 ≤ r.1 ∧ (r.1 < k ∨ r.1 = 0)) ∧ (p ≤ r.2.1 ∧ r.2.1 ≤ p + 3) ∧ SrcOK l r.2.1 r.2.2 ∧ TT n_spec_l00Src_next [.one (.ptrB 0 0), eI k] [srcO l p q] (eI r.1) [srcO l r.2.1 r.2.2]
noncomputable def nx (k : Int) (l : List Int) (p q : Int) : Int × Int × Int := Classical.epsilon (NxP k l p q)
theorem nx_ok (k : Int) (l : List Int) (p q : Int) (h : SrcOK l p q) (hp : p < 1099511627000) : NxP k l p q (nx k l p q) :=
  Classical.epsilon_spec (by obtain ⟨n, p', q', a, b, c, d⟩ := c_next k l p q h hp; exact ⟨(n, p', q'), a, b, c, d⟩)
def BxP (k : Int) (l : List Int) (p q : Int) (r : Bool × Int × Int) : Prop :=
  (p ≤ r.2.1 ∧ r.2.1 ≤ p + 3) ∧ SrcOK l r.2.1 r.2.2 ∧ TT n_spec_l00Src_chance [.one (.ptrB 0 0), eI k] [srcO l p q] (eB r.1) [srcO l r.2.1 r.2.2]
noncomputable def bx (k : Int) (l : List Int) (p q : Int) : Bool × Int × Int := Classical.epsilon (BxP k l p q)
theorem bx_ok (k : Int) (hk : 1 ≤ k ∧ k ≤ 1000) (l : List Int) (p q : Int) (h : SrcOK l p q) (hp : p < 1099511627000) : BxP k l p q (bx k l p q) :=
  Classical.epsilon_spec (by obtain ⟨n, p', q', b, c, d⟩ := c_chance k hk l p q h hp; exact ⟨(n, p', q'), b, c, d⟩)
def VxP (l : List Int) (p q : Int) (r : Int × Int × Int) : Prop :=
  isVal r.1 = true ∧ (p ≤ r.2.1 ∧ r.2.1 ≤ p + 12) ∧ SrcOK l r.2.1 r.2.2 ∧ TT n_spec_l00Src_value [.one (.ptrB 0 0)] [srcO l p q] (eI r.1) [srcO l r.2.1 r.2.2]
noncomputable def vx (l : List Int) (p q : Int) : Int × Int × Int := Classical.epsilon (VxP l p q)
theorem vx_ok (l : List Int) (p q : Int) (h : SrcOK l p q) (hp : p < 1099511620000) : VxP l p q (vx l p q) :=
  Classical.epsilon_spec (by obtain ⟨n, p', q', a, b, c, d⟩ := c_value l p q h hp; exact ⟨(n, p', q'), a, b, c, d⟩)
noncomputable def boolsF (l : List Int) : Nat → Int → Int → List Bool → List Bool × Int × Int
  | 0, p, q, r => (r, p, q)
  | k + 1, p, q, r => boolsF l k (bx 2 l p q).2.1 (bx 2 l p q).2.2 (r ++ [(bx 2 l p q).1])
theorem boolsF_ok (l : List Int) : ∀ (k : Nat) (p q : Int) (r : List Bool), SrcOK l p q → p + 3 * k < 1099511627000 →
    (boolsF l k p q r).1.length = r.length + k ∧ (p ≤ (boolsF l k p q r).2.1 ∧ (boolsF l k p q r).2.1 ≤ p + 3 * k) ∧ SrcOK l (boolsF l k p q r).2.1 (boolsF l k p q r).2.2
  | 0, p, q, r, h, _ => ⟨rfl, ⟨Int.le_refl _, by simp [boolsF]⟩, h⟩
  | k + 1, p, q, r, h, hp => by
    obtain ⟨a1, a2, a3⟩ := bx_ok 2 (by omega) l p q h (by omega)
    obtain ⟨b1, b2, b3⟩ := boolsF_ok l k _ _ (r ++ [(bx 2 l p q).1]) a2 (by omega)
    refine ⟨by rw [boolsF, b1]; simp; omega, ?_, b3⟩
    rw [boolsF]
    omega
theorem c_bools (l : List Int) (p q : Int) (h : SrcOK l p q) (hp : p < 1099511620000) :
    TT n_spec_l00Src_bools [.one (.ptrB 0 0), eI 8] [srcO l p q] (.one (.row 1)) [srcO l (boolsF l 8 p q []).2.1 (boolsF l 8 p q []).2.2, .row t_bool .bool (boolsF l 8 p q []).1] := by
  refine r_spec_l00Src_bools 8 l p q ⟨fun m i l' p' q' r => 0 ≤ i ∧ i ≤ 8 ∧ m = (8 - i).toNat ∧ l' = l ∧ SrcOK l p' q' ∧ p' ≤ p + 3 * i ∧ (r.length : Int) = i ∧ boolsF l (8 - i.toNat) p' q' r = boolsF l 8 p q [], ⟨_, rfl, by omega, by omega, rfl, rfl, h, by omega, rfl, rfl⟩, ?_⟩
  rintro m i l' p' q' r ⟨h0, h1, rfl, rfl, h2, h3, h4, h5⟩
  refine ifP (fun hlt => ?_) (fun hge => ?_)
  · obtain ⟨a1, a2, a3⟩ := bx_ok 2 (by omega) l' p' q' h2 (by omega)
    rw [w64 (by omega)]
    refine ⟨_, _, _, _, a3, by simp; omega, _, ?_, rfl, by omega, by omega, rfl, rfl, a2, by omega, by simp; omega, ?_⟩
    · omega
    · rw [← h5, show 8 - i.toNat = (8 - (i + 1).toNat) + 1 by omega, boolsF]
  · have : i = 8 := by omega
    subst this
    rw [← h5]
    exact ⟨rfl, rfl⟩
end Go.Ry
