/- The jobs of a task in the order of their releases: the same by the program and by the reference. No condition. -/
import Derived.Test.YtonmkhdbgofbpaaPStdIo
set_option linter.unusedVariables false
set_option linter.unusedSimpArgs false
namespace Go.Ry
open Go.Proofs

abbrev Dn := Int × Int × Int × Int × Unit
@[reducible] def tDn : Ty := .pair (.int .i64) (.pair (.int .i64) (.pair (.int .i64) (.pair (.int .i64) .unit)))
@[reducible] def dDn : Dn := ((0 : Int), ((0 : Int), ((0 : Int), ((0 : Int), ()))))
/-- Of one task, none comes before one that came ahead of it. -/
def ordTo (l : List Dn) (n : Nat) : Prop := ∀ i k : Nat, i < n → k < i → (l.getD k dDn).1 = (l.getD i dDn).1 → (l.getD k dDn).2.1 < (l.getD i dDn).2.1
noncomputable def ordB (l : List Dn) : Bool := @ite _ (ordTo l l.length) (Classical.propDecidable _) true false
theorem ordB_t {l : List Dn} (h : ordTo l l.length) : ordB l = true := by unfold ordB; rw [if_pos h]
theorem ordB_f {l : List Dn} {i k : Nat} (hi : i < l.length) (hk : k < i) (h1 : (l.getD k dDn).1 = (l.getD i dDn).1) (h2 : (l.getD i dDn).2.1 ≤ (l.getD k dDn).2.1) : ordB l = false := by
  unfold ordB
  rw [if_neg]
  intro h
  have := h i k hi hk h1
  omega
noncomputable def ordM (l : List Dn) : Bool × Int := if (l.length : Int) > 4096 then (false, 2) else (ordB l, 0)
@[reducible] def tupBI (b : Bool) (n : Int) : Ent := .tup [(false, [.bool b]), (false, [cI n])]
theorem c_spec_InOrder (l : List Dn) : TT n_spec_InOrder [.one (.sl tDn l)] [] (tupBI (ordM l).1 (ordM l).2) [] := by
  refine r_spec_InOrder l (ifP (fun h => ?_) (fun h => ?_))
  · unfold ordM; rw [if_pos h]; exact ⟨rfl, rfl⟩
  have e : ordM l = (ordB l, 0) := by unfold ordM; rw [if_neg h]
  rw [e]
  refine ⟨fun m i => 0 ≤ i ∧ i ≤ l.length ∧ m = (l.length - i).toNat ∧ ordTo l i.toNat, ⟨_, rfl, by omega, by omega, rfl, fun i k hi => by simp at hi⟩, ?_⟩
  rintro m i ⟨h0, h1, rfl, ho⟩
  refine ifP (fun hlt => ?_) (fun hge => ?_)
  · refine ⟨fun m i' k => i' = i ∧ 0 ≤ k ∧ k ≤ i ∧ m = (i - k).toNat ∧ ∀ q : Nat, q < k.toNat → (l.getD q dDn).1 = (l.getD i.toNat dDn).1 → (l.getD q dDn).2.1 < (l.getD i.toNat dDn).2.1,
      ⟨_, rfl, rfl, by omega, by omega, rfl, fun q hq => by simp at hq⟩, ?_⟩
    rintro m i' k ⟨rfl, k0, k1, rfl, hq⟩
    refine ifP (fun hk => ?_) (fun hk => ?_)
    · have go : ((l.getD k.toNat dDn).1 = (l.getD i'.toNat dDn).1 → (l.getD k.toNat dDn).2.1 < (l.getD i'.toNat dDn).2.1) → ∀ q : Nat, q < (k + 1).toNat → (l.getD q dDn).1 = (l.getD i'.toNat dDn).1 → (l.getD q dDn).2.1 < (l.getD i'.toNat dDn).2.1 := fun hh q h e => by
        by_cases hqk : q = k.toNat
        · subst hqk; exact hh e
        · exact hq q (by omega) e
      refine ⟨⟨k0, by omega⟩, ⟨h0, hlt⟩, ifE (fun hE => ⟨⟨k0, by omega⟩, ⟨h0, hlt⟩, ifP (fun hb => ?_) (fun hb => ?_)⟩) (fun hE => ?_)⟩
      · rw [ordB_f (l := l) (i := i'.toNat) (k := k.toNat) (by omega) (by omega) hE hb]
        exact ⟨rfl, rfl⟩
      · rw [w64 (x := k + 1) (by omega)]
        exact ⟨_, by omega, rfl, rfl, by omega, by omega, rfl, go fun _ => Int.not_le.1 hb⟩
      · rw [w64 (x := k + 1) (by omega)]
        exact ⟨_, by omega, rfl, rfl, by omega, by omega, rfl, go fun e => absurd e hE⟩
    · rw [w64 (x := i' + 1) (by omega)]
      refine ⟨_, by omega, rfl, by omega, by omega, rfl, fun a b ha hb => ?_⟩
      by_cases hai : a = i'.toNat
      · subst hai; exact hq b (by omega)
      · exact ho a b (by omega) hb
  · have e : i.toNat = l.length := by omega
    rw [e] at ho
    rw [ordB_t ho]; exact ⟨rfl, rfl⟩

theorem mfind_append : ∀ {l : List (Int × Int)} {t : Int} {i : Nat} {p : Int × Int}, (mfind (l ++ [p]) t i).map Prod.snd = match (mfind l t i).map Prod.snd with
    | some r => some r
    | none => if t = p.1 then some p.2 else none
  | [], t, i, p => by
    simp only [List.nil_append, mfind]
    split <;> simp
  | q :: l, t, i, p => by
    simp only [List.cons_append, mfind]
    split
    · rfl
    · exact mfind_append
theorem mfind_set : ∀ {l : List (Int × Int)} {n t x y : Int} {i j : Nat}, mfind l n i = some (j, y) → i ≤ j ∧ (mfind (l.set (j - i) (n, x)) t i).map Prod.snd = if t = n then some x else (mfind l t i).map Prod.snd
  | [], _, _, _, _, _, _, h => by simp [mfind] at h
  | p :: l, n, t, x, y, i, j, h => by
    simp only [mfind] at h
    split at h
    · rename_i hn
      simp only [Option.some.injEq, Prod.mk.injEq] at h
      obtain ⟨rfl, rfl⟩ := h
      refine ⟨Nat.le_refl _, ?_⟩
      simp only [Nat.sub_self, List.set_cons_zero, mfind]
      by_cases ht : t = n
      · simp [ht]
      · rw [if_neg ht, if_neg ht, if_neg (by rw [← hn]; exact ht)]
    · rename_i hn
      obtain ⟨h1, h2⟩ := mfind_set (t := t) (x := x) h
      refine ⟨by omega, ?_⟩
      rw [show j - i = (j - (i + 1)) + 1 by omega, List.set_cons_succ]
      simp only [mfind]
      by_cases ht : t = p.1
      · rw [if_pos ht, if_pos ht, if_neg (by rw [ht]; exact fun e => hn e.symm)]
      · rw [if_neg ht, if_neg ht]
        exact h2
theorem lkup_mput (es : List (Int × Int)) (n x t : Int) : lkup (mput es n x) t = if t = n then some x else lkup es t := by
  unfold lkup mput
  split
  · rename_i i y h
    have := (mfind_set (t := t) (x := x) h).2
    simpa using this
  · rename_i h
    rw [mfind_append]
    by_cases ht : t = n
    · subst ht
      rw [h]
      simp
    · rw [if_neg ht]
      cases mfind es t 0 <;> simp [ht]
theorem c_impl_many_Done (l : List Dn) : TT n_impl_many_impl_Done [.one (.sl tDn l)] [] (eI (if (l.length : Int) > 4096 then 2 else 0)) [] :=
  r_impl_many_impl_Done l ⟨_, c_impl_when _ _, by simp, rfl⟩
theorem c_impl_InOrder (l : List Dn) : TT n_impl_InOrder [.one (.sl tDn l)] [] (tupBI (ordM l).1 (ordM l).2) [] := by
  refine r_impl_InOrder l ⟨_, c_impl_many_Done l, ?_⟩
  by_cases h : (l.length : Int) > 4096
  · rw [if_pos h]
    unfold ordM; rw [if_pos h]; exact ifN_t (by decide) ⟨rfl, rfl⟩
  rw [if_neg h]
  have e : ordM l = (ordB l, 0) := by unfold ordM; rw [if_neg h]
  rw [e]
  refine ifN_f rfl ⟨fun m i r => 0 ≤ i ∧ i ≤ l.length ∧ m = (l.length - i).toNat ∧ ordTo l i.toNat ∧ ∀ t : Int, (lkup r t = none → ∀ k : Nat, k < i.toNat → (l.getD k dDn).1 ≠ t) ∧
      ∀ a : Int, lkup r t = some a → (∃ k : Nat, k < i.toNat ∧ (l.getD k dDn).1 = t ∧ (l.getD k dDn).2.1 = a) ∧ ∀ k : Nat, k < i.toNat → (l.getD k dDn).1 = t → (l.getD k dDn).2.1 ≤ a,
    ⟨_, rfl, by omega, by omega, rfl, fun i k hi => by simp at hi, fun t => ⟨fun _ k hk => by simp at hk, fun a ha => by simp [lkup, mfind] at ha⟩⟩, ?_⟩
  rintro m i r ⟨h0, h1, rfl, ho, hr⟩
  refine ifP (fun hlt => ?_) (fun hge => ?_)
  · have fin : ((lkup r (l.getD i.toNat dDn).1).isSome = true → (lkup r (l.getD i.toNat dDn).1).getD 0 < (l.getD i.toNat dDn).2.1) → ordTo l (i + 1).toNat ∧ ∀ t : Int, (lkup (mput r (l.getD i.toNat dDn).1 (l.getD i.toNat dDn).2.1) t = none → ∀ k : Nat, k < (i + 1).toNat → (l.getD k dDn).1 ≠ t) ∧
        ∀ a : Int, lkup (mput r (l.getD i.toNat dDn).1 (l.getD i.toNat dDn).2.1) t = some a → (∃ k : Nat, k < (i + 1).toNat ∧ (l.getD k dDn).1 = t ∧ (l.getD k dDn).2.1 = a) ∧ ∀ k : Nat, k < (i + 1).toNat → (l.getD k dDn).1 = t → (l.getD k dDn).2.1 ≤ a := by
      intro hless
      have below : ∀ k : Nat, k < i.toNat → (l.getD k dDn).1 = (l.getD i.toNat dDn).1 → (l.getD k dDn).2.1 < (l.getD i.toNat dDn).2.1 := fun k hk he => by
        cases hl : lkup r (l.getD i.toNat dDn).1 with
        | none => exact absurd he ((hr _).1 hl k hk)
        | some a =>
          have h1 := ((hr _).2 a hl).2 k hk he
          rw [hl] at hless
          have h2 : a < (l.getD i.toNat dDn).2.1 := hless rfl
          omega
      refine ⟨fun a b ha hb => ?_, fun t => ⟨fun hn k hk => ?_, fun a ha => ⟨?_, fun k hk he => ?_⟩⟩⟩
      · by_cases hai : a = i.toNat
        · subst hai; exact below b hb
        · exact ho a b (by omega) hb
      · rw [lkup_mput] at hn
        split at hn
        · simp at hn
        · rename_i ht
          by_cases hki : k = i.toNat
          · subst hki; exact fun e => ht e.symm
          · exact (hr t).1 hn k (by omega)
      · rw [lkup_mput] at ha
        split at ha
        · rename_i ht
          simp only [Option.some.injEq] at ha
          exact ⟨i.toNat, by omega, ht.symm, ha⟩
        · obtain ⟨k, k1, k2, k3⟩ := ((hr t).2 a ha).1
          exact ⟨k, by omega, k2, k3⟩
      · rw [lkup_mput] at ha
        split at ha
        · rename_i ht
          simp only [Option.some.injEq] at ha
          by_cases hki : k = i.toNat
          · subst hki; omega
          · have := below k (by omega) (by rw [he, ht])
            omega
        · rename_i ht
          by_cases hki : k = i.toNat
          · subst hki; exact absurd he.symm ht
          · exact ((hr t).2 a ha).2 k (by omega) he
    rw [w64 (x := i + 1) (by omega)]
    refine ⟨⟨h0, hlt⟩, ifB_cases (fun hs => ifP (fun hb => ?_) (fun hb => ?_)) (fun hs => ?_)⟩
    · cases hl : lkup r (l.getD i.toNat dDn).1 with
      | none => rw [hl] at hs; simp at hs
      | some a =>
        rw [hl] at hb
        obtain ⟨k, k1, k2, k3⟩ := ((hr _).2 a hl).1
        have hb2 : (l.getD i.toNat dDn).2.1 ≤ a := hb
        rw [ordB_f (l := l) (i := i.toNat) (k := k) (by omega) k1 k2 (by omega)]
        exact ⟨rfl, rfl⟩
    · exact ⟨_, by omega, rfl, by omega, by omega, rfl, fin fun _ => Int.not_le.1 hb⟩
    · exact ⟨_, by omega, rfl, by omega, by omega, rfl, fin fun h => by rw [hs] at h; simp at h⟩
  · have e : i.toNat = l.length := by omega
    rw [e] at ho
    rw [ordB_t ho]; exact ⟨rfl, rfl⟩
theorem c_laws_FnExactInOrder (p : List Dn) (hw : Ty.wf (.slice tDn) p) : TT n_laws_FnExactInOrder [.one (.sl tDn p)] [] (eB true) [] := by
  refine r_laws_FnExactInOrder p ⟨_, c_sz_DoneS p 1048576 hw (by omega), ifP (fun _ => ⟨rfl, rfl⟩) (fun h0 => ?_)⟩
  have hs := (sz_DoneS_ok (l := p) (n := 1048576) (by omega)).2 (by omega)
  have t := c_to_DoneS p hs
  exact ⟨_, t, _, _, c_spec_InOrder p, _, t, _, _, c_impl_InOrder p, ifB_f (by simp) (ifN_f rfl ⟨_, t, _, c_eq_DoneS p hs, ifB_f rfl ⟨rfl, rfl⟩⟩)⟩
end Go.Ry
