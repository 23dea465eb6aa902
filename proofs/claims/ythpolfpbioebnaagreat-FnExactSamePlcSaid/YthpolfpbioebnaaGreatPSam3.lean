/- Equal cores, jobs, data. No condition. -/
import Derived.Test.YthpolfpbioebnaaGreatPSam2
set_option linter.unusedVariables false
set_option linter.unusedSimpArgs false
set_option synthInstance.maxSize 4000
namespace Go.Ry
open Go.Proofs

def smC (fs : List Frm) (st : List Int) : Bool := decide ((fs.length : Int) ≤ 6) && (decide ((st.length : Int) ≤ 48) && smallF fs)
@[reducible] def coE (fs : List Frm) (st : List Int) : Ent := .agg [.sl tFrm fs, .sl tyInt st]
theorem smC_no {fs fs' : List Frm} {st st' : List Int} (h : smC fs st = true) (h' : smC fs' st' = false) : ¬ (fs = fs' ∧ st = st') := by
  rintro ⟨rfl, rfl⟩; rw [h] at h'; cases h'
theorem c_SameCoreG (fs fs' : List Frm) (st st' : List Int) (hf : fs.length ≤ 1048576) (hst : st.length ≤ 1048576) (hs : ∀ f ∈ fs, f.2.2.1.length ≤ 1048576) :
    TT n_impl_SameCore [coE fs st, coE fs' st'] [] (eB (smC fs st && decide (fs = fs' ∧ st = st'))) [] := by
  refine r_impl_SameCore_k1 fs st fs' st' ⟨_, c_impl_isSmall fs st, ifB_cases (fun h1 => ⟨_, c_impl_isSmall fs' st', ifB_cases (fun h2 => ⟨_, c_Equal_int2 st st' hst, ifP (fun h3 => ⟨_, c_EqualFunc fs fs' hf hs, ?_, rfl⟩) (fun h3 => ⟨?_, rfl⟩)⟩) (fun h2 => ⟨?_, rfl⟩)⟩) (fun h1 => ⟨?_, rfl⟩)⟩
  · rw [show smC fs st = true from h1, Bool.true_and]
    subst h3
    have : decide (fs = fs' ∧ st = st) = decide (fs = fs') := by congr 1; exact propext ⟨fun e => e.1, fun e => ⟨e, rfl⟩⟩
    rw [this]
  · rw [decide_eq_false (fun e => h3 e.2), Bool.and_false]
  · rw [decide_eq_false (smC_no (show smC fs st = true from h1) (show smC fs' st' = false from h2)), Bool.and_false]
  · rw [show smC fs st = false from h1, Bool.false_and]
theorem c_spec_SameCoreG (fs fs' : List Frm) (st st' : List Int) (hst : st.length ≤ 1048576) (hs : ∀ f ∈ fs, f.2.2.1.length ≤ 1048576) :
    TT n_spec_SameCore [coE fs st, coE fs' st'] [] (eB (smC fs st && decide (fs = fs' ∧ st = st'))) [] := by
  have hno : (decide ((fs.length : Int) ≤ 6) && decide ((st.length : Int) ≤ 48)) = false → smC fs st = false := by
    intro h; unfold smC; cases h1 : decide ((fs.length : Int) ≤ 6) <;> cases h2 : decide ((st.length : Int) ≤ 48) <;> simp_all
  refine r_spec_SameCore fs st fs' st' ⟨_, c_spec_l07Frames fs st, ifB_cases (fun h1 => ⟨by rw [hno (nb_t h1), Bool.false_and], rfl⟩) (fun h1 => ?_)⟩
  have h1 := nb_f h1
  refine ⟨_, c_spec_l07Frames fs' st', ifB_cases (fun h2 => ⟨?_, rfl⟩) (fun h2 => ?_)⟩
  · have h2 := nb_t h2
    rw [decide_eq_false, Bool.and_false]
    rintro ⟨rfl, rfl⟩; rw [h1] at h2; cases h2
  refine ifN (fun h3 => ⟨by rw [decide_eq_false (fun e => h3 (by rw [e.1])), Bool.and_false], rfl⟩) (fun h3 => ⟨_, c_spec_l00Same st st' hst, ifB_cases (fun h4 => ⟨by rw [decide_eq_false (fun e => nd_t h4 e.2), Bool.and_false], rfl⟩) (fun h4 => ?_)⟩)
  have h4 := nd_f h4
  subst h4
  simp only [Bool.and_eq_true, decide_eq_true_eq] at h1
  refine ⟨fun m i => 0 ≤ i ∧ i ≤ fs.length ∧ m = (fs.length - i).toNat ∧ (∀ j, j < i.toNat → fs.getD j dFrm = fs'.getD j dFrm) ∧ (fs.take i.toNat).all loops4 = true, ⟨_, rfl, by omega, by omega, rfl, fun j hj => by simp at hj, rfl⟩, ?_⟩
  rintro m i ⟨h5, h6, rfl, h7, h8⟩
  refine ifP (fun hlt => ?_) (fun hge => ⟨?_, rfl⟩)
  · have hm : fs.getD i.toNat dFrm ∈ fs := by
      rw [List.getD_eq_getElem?_getD, List.getElem?_eq_getElem (by omega)]; exact List.getElem_mem _
    have hq := hs _ hm
    have hne : fs.getD i.toNat dFrm ≠ fs'.getD i.toNat dFrm → (smC fs st && decide (fs = fs' ∧ st = st)) = false := fun e => by
      rw [decide_eq_false (fun x => e (by rw [x.1])), Bool.and_false]
    have hl4 : loops4 (fs.getD i.toNat dFrm) = false → (smC fs st && decide (fs = fs' ∧ st = st)) = false := fun e => by
      have : smallF fs = false := by
        unfold smallF; rw [List.all_eq_false]; exact ⟨_, hm, by rw [e]; simp⟩
      unfold smC; rw [this]; simp
    have hn : fs.getD i.toNat dFrm = fs'.getD i.toNat dFrm → ∀ j, j < (i + 1).toNat → fs.getD j dFrm = fs'.getD j dFrm := same_next h5 h7
    have htk : loops4 (fs.getD i.toNat dFrm) = true → (fs.take (i + 1).toNat).all loops4 = true := fun e => by
      rw [toNat_succ h5, take_succ_getD (by omega) dFrm, List.all_append, h8]; simp only [List.all_cons, List.all_nil, e, Bool.and_true]
    refine ⟨⟨h5, hlt⟩, ⟨h5, by omega⟩, ?_⟩
    rw [w64 (x := i + 1) (by omega)]
    revert hne hl4 hn htk hq
    generalize fs.getD i.toNat dFrm = f
    generalize fs'.getD i.toNat dFrm = g
    obtain ⟨a, b, c, u⟩ := f
    obtain ⟨a', b', c', v⟩ := g
    intro hq hne hl4 hn htk
    refine ifN (fun e => ⟨by rw [hne (fun x => e (by injection x))], rfl⟩) (fun e1 => ifN (fun e => ⟨by rw [hne (fun x => e (by injection x with _ x; injection x))], rfl⟩) (fun e2 => ifP (fun e => ⟨by rw [hl4 (decide_eq_false (by have e' : (c.length : Int) > 4 := e; show ¬ (c.length : Int) ≤ 4; omega))], rfl⟩) (fun e3 => ⟨_, c_spec_l00Same c c' hq, ifB_cases (fun e => ⟨by rw [hne (fun x => nd_t e (by injection x with _ x; injection x with _ x; injection x))], rfl⟩) (fun e4 => ?_)⟩)))
    have e4 := nd_f e4
    simp only at e1 e2
    subst e1 e2 e4
    exact ⟨_, by omega, rfl, by omega, by omega, rfl, hn rfl, htk (decide_eq_true (by have e' : ¬ (c.length : Int) > 4 := e3; show (c.length : Int) ≤ 4; omega))⟩
  · rw [List.take_of_length_le (by omega)] at h8
    have e : fs = fs' := ext_getD (d := dFrm) (by omega) fun j hj => h7 j (by omega)
    rw [decide_eq_true (show fs = fs' ∧ st = st from ⟨e, rfl⟩), Bool.and_true]
    unfold smC smallF
    rw [h8, decide_eq_true h1.1, decide_eq_true h1.2]; rfl

/-! ### jobs -/
noncomputable instance jbDec : DecidableEq Jb := fun a b => Classical.propDecidable (a = b)
@[reducible] def jbEnt (j : Jb) : Ent := .agg [cI j.1, cI j.2.1, cI j.2.2.1, cI j.2.2.2.1, cI j.2.2.2.2.1, .sl tFrm j.2.2.2.2.2.1.1, .sl tyInt j.2.2.2.2.2.1.2.1, .sl .bool j.2.2.2.2.2.2.1, .sl .bool j.2.2.2.2.2.2.2.1, .sl .bool j.2.2.2.2.2.2.2.2.1]
def smJ (j : Jb) : Bool := smC j.2.2.2.2.2.1.1 j.2.2.2.2.2.1.2.1
structure JbSm (j : Jb) : Prop where
  fs : j.2.2.2.2.2.1.1.length ≤ 1048576
  st : j.2.2.2.2.2.1.2.1.length ≤ 1048576
  f : ∀ f ∈ j.2.2.2.2.2.1.1, f.2.2.1.length ≤ 1048576
  a : j.2.2.2.2.2.2.1.length ≤ 1048576
  b : j.2.2.2.2.2.2.2.1.length ≤ 1048576
  c : j.2.2.2.2.2.2.2.2.1.length ≤ 1048576
theorem c_sameJob (x y : Jb) (hx : JbSm x) : TT n_impl_sameJob [jbEnt x, jbEnt y] [] (eB (smJ x && decide (x = y))) [] := by
  obtain ⟨a, b, c, d, e, ⟨fs, st, u⟩, l, m, n, v⟩ := x
  obtain ⟨a', b', c', d', e', ⟨fs', st', u'⟩, l', m', n', v'⟩ := y
  have no : ∀ {p : Prop}, (((a, b, c, d, e, (fs, st, u), l, m, n, v) : Jb) = (a', b', c', d', e', (fs', st', u'), l', m', n', v') → p) → ¬ p → eB false = eB (smJ (a, b, c, d, e, (fs, st, u), l, m, n, v) && decide (((a, b, c, d, e, (fs, st, u), l, m, n, v) : Jb) = (a', b', c', d', e', (fs', st', u'), l', m', n', v'))) := fun h h2 => by
    rw [decide_eq_false (fun e => h2 (h e)), Bool.and_false]
  have q := c_SameCoreG fs fs' st st' hx.fs hx.st hx.f
  refine r_impl_sameJob a b c d e fs st l m n a' b' c' d' e' fs' st' l' m' n' (ifE (fun h1 => ifE (fun h2 => ifE (fun h3 => ifE (fun h4 => ifE (fun h5 => ⟨_, q, ifB_cases (fun h6 => ⟨_, c_Equal_bool2 l l' hx.a, ifP (fun h7 => ⟨_, c_Equal_bool2 m m' hx.b, ifP (fun h8 => ⟨_, c_Equal_bool2 n n' hx.c, ?_, rfl⟩) (fun h => ⟨no (fun e => ?_) h, rfl⟩)⟩) (fun h => ⟨no (fun e => ?_) h, rfl⟩)⟩) (fun h6 => ⟨?_, rfl⟩)⟩)
    (fun h => ⟨no (fun e => ?_) h, rfl⟩)) (fun h => ⟨no (fun e => ?_) h, rfl⟩)) (fun h => ⟨no (fun e => ?_) h, rfl⟩)) (fun h => ⟨no (fun e => ?_) h, rfl⟩)) (fun h => ⟨no (fun e => ?_) h, rfl⟩))
  · simp only [Bool.and_eq_true, decide_eq_true_eq] at h6
    obtain ⟨k1, rfl, rfl⟩ := h6
    subst h1 h2 h3 h4 h5 h7 h8
    rw [show smJ (a, b, c, d, e, (fs, st, u), l, m, n, v) = true from k1, Bool.true_and]
    have : decide (n = n') = decide (((a, b, c, d, e, (fs, st, u), l, m, n, v) : Jb) = (a, b, c, d, e, (fs, st, u'), l, m, n', v')) := by
      congr 1; exact propext ⟨fun e => by rw [e], fun e => by simp only [Prod.mk.injEq] at e; exact e.2.2.2.2.2.2.2.2.1⟩
    rw [this]
  · simp only [Prod.mk.injEq] at e; exact e.2.2.2.2.2.2.2.1
  · simp only [Prod.mk.injEq] at e; exact e.2.2.2.2.2.2.1
  · cases h9 : smJ (a, b, c, d, e, (fs, st, u), l, m, n, v) && decide (((a, b, c, d, e, (fs, st, u), l, m, n, v) : Jb) = (a', b', c', d', e', (fs', st', u'), l', m', n', v'))
    · rfl
    · simp only [Bool.and_eq_true, decide_eq_true_eq, Prod.mk.injEq] at h9
      have h9 : smC fs st = true ∧ _ := h9
      rw [h9.1, decide_eq_true ⟨h9.2.2.2.2.2.2.1.1, h9.2.2.2.2.2.2.1.2.1⟩] at h6
      cases h6
  all_goals (simp only [Prod.mk.injEq] at e)
  · exact e.2.2.2.2.1
  · exact e.2.2.2.1
  · exact e.2.2.1
  · exact e.2.1
  · exact e.1
noncomputable def jobsSame (J K : List Jb) : Bool := decide (J = K) && J.all smJ
theorem jobsSame_len {J K : List Jb} (h : ¬ J.length = K.length) : jobsSame J K = false := by unfold jobsSame; rw [decide_eq_false (fun e => h (by rw [e]))]; rfl
theorem jobsSame_no {J K : List Jb} {i : Nat} (hi : i < J.length) (h : (smJ (J.getD i dJb) && decide (J.getD i dJb = K.getD i dJb)) = false) : jobsSame J K = false := by
  unfold jobsSame
  by_cases e : J = K
  · subst e
    rw [decide_eq_true rfl, Bool.and_true] at h
    rw [decide_eq_true rfl, Bool.true_and, List.all_eq_false]
    refine ⟨J.getD i dJb, ?_, by rw [h]; simp⟩
    rw [List.getD_eq_getElem?_getD, List.getElem?_eq_getElem hi]; exact List.getElem_mem _
  · rw [decide_eq_false e]; rfl
theorem jobsSame_yes {J K : List Jb} (hl : J.length = K.length) (h : ∀ j, j < J.length → J.getD j dJb = K.getD j dJb) (h2 : ∀ j, j < J.length → smJ (J.getD j dJb) = true) : jobsSame J K = true := by
  unfold jobsSame
  rw [decide_eq_true (ext_getD (d := dJb) hl h), Bool.true_and, List.all_eq_true]
  intro x hx
  obtain ⟨i, hi, rfl⟩ := List.getElem_of_mem hx
  have := h2 i hi
  rw [List.getD_eq_getElem?_getD, List.getElem?_eq_getElem hi] at this
  exact this
theorem c_EqF_Job (a b : List Jb) (ha : a.length ≤ 1048576) (hs : ∀ x ∈ a, JbSm x) : TT n_slices_EqualFunc_impl_Job_impl_Job_impl_Job_impl_Job [.one (.sl tJb a), .one (.sl tJb b), .one (.fn n_impl_sameJob [])] [] (eB (jobsSame a b)) [] := by
  refine r_slices_EqualFunc_impl_Job_impl_Job_impl_Job_impl_Job a b (ifN (fun h => ⟨by rw [jobsSame_len (fun e => h (by rw [e]))], rfl⟩) (fun h => ?_))
  refine ⟨fun m i => 0 ≤ i ∧ i ≤ a.length ∧ m = (a.length - i).toNat ∧ (∀ j, j < i.toNat → a.getD j dJb = b.getD j dJb) ∧ ∀ j, j < i.toNat → smJ (a.getD j dJb) = true, ⟨_, rfl, by omega, by omega, rfl, fun j hj => by simp at hj, fun j hj => by simp at hj⟩, ?_⟩
  rintro m i ⟨h0, h1, rfl, h2, h3⟩
  refine ifP (fun hlt => ?_) (fun hge => ⟨by rw [jobsSame_yes (by omega) (fun j hj => h2 j (by omega)) (fun j hj => h3 j (by omega))], rfl⟩)
  have hm : a.getD i.toNat dJb ∈ a := by
    rw [List.getD_eq_getElem?_getD, List.getElem?_eq_getElem (by omega)]; exact List.getElem_mem _
  have hno := jobsSame_no (K := b) (i := i.toNat) (J := a) (by omega)
  refine ⟨⟨h0, hlt⟩, ⟨h0, by omega⟩, _, c_sameJob (a.getD i.toNat dJb) (b.getD i.toNat dJb) (hs _ hm), ifB_cases (fun he => ⟨by rw [hno (nb_t he)], rfl⟩) (fun he => ?_)⟩
  have he := nb_f he
  simp only [Bool.and_eq_true, decide_eq_true_eq] at he
  rw [w64 (x := i + 1) (by omega)]
  refine ⟨_, by omega, rfl, by omega, by omega, rfl, same_next h0 h2 he.2, fun j hj => ?_⟩
  rcases Nat.lt_or_ge j i.toNat with h8 | h8
  · exact h3 j h8
  · rw [show j = i.toNat by omega]; exact he.1
end Go.Ry
