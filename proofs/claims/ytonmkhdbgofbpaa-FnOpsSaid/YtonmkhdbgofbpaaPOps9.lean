/- ApplyOp. No condition. -/
import Derived.Test.YtonmkhdbgofbpaaPOps8
set_option linter.unusedVariables false
set_option linter.unusedSimpArgs false
namespace Go.Ry
open Go.Proofs

def preCode (x : Dat) (op a : Int) (st : List Int) (now : Int) : Int :=
  if (st.length : Int) > 4096 then 2 else if dataOK x = false then 1 else if instrOK op a = false then 1 else if isTm now = false then 4 else if isCtl op = true then 10
  else if (op = 19 ∨ op = 20) ∧ a ≥ (x.f.length : Int) then 5 else 0
def appCode (x : Dat) (op a : Int) (st : List Int) (now : Int) : Int :=
  if preCode x op a st now ≠ 0 then preCode x op a st now else if fitsM op a (kindsD x.f) st = false then 13 else 0
@[reducible] def noDat : Dat := ⟨[], [], [], [], [], [], 0⟩
def appRes (x : Dat) (op a : Int) (st : List Int) (now : Int) : Dat × List Int :=
  if appCode x op a st now = 0 then appM x op a (argA x op a st) (argB x op a st) now else (noDat, [])
@[reducible] def opRE (w n : Int) : Ent := .tup [(true, [.row 0, .row 1, .row 2, .row 3, .row 4, .row 5, cI w]), (false, [.row 6]), (false, [cI n])]
theorem block_of {x : Dat} {op a : Int} (hi : instrOK op a = true) (hx : dataOK x = true) (ha : op = 19 ∨ op = 20 → a < x.f.length) : blockIn op a (kindsD x.f) := by
  intro e
  have h1 := ha (.inl e)
  have h0 : 0 ≤ a := by
    rw [e] at hi
    simp [instrOK, rangeOf, within] at hi
    omega
  refine ⟨h0, by simpa [kindsD] using h1, ?_⟩
  rw [kindsD_at _ _ (by omega)]
  exact (datOK_iff.1 hx).kind (by omega)
theorem pre_zero {x : Dat} {op a : Int} {st : List Int} {now : Int} (h : preCode x op a st now = 0) :
    (st.length : Int) ≤ 4096 ∧ dataOK x = true ∧ instrOK op a = true ∧ isTm now = true ∧ isCtl op = false ∧ (op = 19 ∨ op = 20 → a < x.f.length) := by
  unfold preCode at h
  split at h
  · omega
  split at h
  · omega
  split at h
  · omega
  split at h
  · omega
  split at h
  · omega
  split at h
  · omega
  rename_i h1 h2 h3 h4 h5 h6
  exact ⟨by omega, by simpa using h2, by simpa using h3, by simpa using h4, by simpa using h5, fun e => by
    rcases Int.lt_or_le a x.f.length with k | k
    · exact k
    · exact absurd ⟨e, k⟩ h6⟩
theorem fit_of {x : Dat} {op a : Int} {st : List Int} {now : Int} (h : preCode x op a st now = 0) (hf : onM (effect op a (kindsD x.f)).1 st = true) : Fit x op a st := by
  obtain ⟨h1, h2, h3, h4, h5, h6⟩ := pre_zero h
  obtain ⟨k1, k2⟩ := onM_iff.1 hf
  refine ⟨h3, h5, h2, h6, k1, fun i hi h98 => ?_, by omega⟩
  have := k2 i hi
  unfold okI at this
  rw [if_pos h98, Bool.and_eq_true, within_iff] at this
  unfold bin
  have h7 := this.1
  simp only [argA, tk] at h7 ⊢
  omega
def Dat.like (x y : Dat) : Prop := y.g.length = x.g.length ∧ y.f.length = x.f.length ∧ y.a.length = x.a.length ∧ y.b.length = x.b.length ∧ y.c.length = x.c.length ∧ y.d.length = x.d.length
theorem like_ite {c : Prop} [Decidable c] {x : Dat} {p q : Dat × List Int} (hp : x.like p.1) (hq : x.like q.1) : x.like (if c then p else q).1 := by
  split
  · exact hp
  · exact hq
theorem wrong_like (x : Dat) (b : Bool) : x.like (x.wrong b) := by
  unfold Dat.wrong
  split <;> exact ⟨rfl, rfl, rfl, rfl, rfl, rfl⟩
theorem appM_len (x : Dat) (op a : Int) (A B : List Int) (now : Int) : x.like (appM x op a A B now).1 := by
  unfold appM
  repeat' (first | refine like_ite ?_ ?_ | fail)
  all_goals first
    | exact ⟨rfl, rfl, rfl, rfl, rfl, rfl⟩
    | exact wrong_like _ _
    | exact ⟨by simp, by simp, by simp, by simp, by simp, by simp⟩
    | fail
theorem c_impl_copyData (x : Dat) (hx : dataOK x = true) : TT n_impl_copyData [.agg x.cs] [] (.agg [.row 0, .row 1, .row 2, .row 3, .row 4, .row 5, cI x.w]) x.os := by
  have hD := datOK_iff.1 hx
  exact r_impl_copyData x.g x.f x.a x.b x.c x.d x.w ⟨_, c_Clone_int _ (by have := hD.g; omega), _, c_Clone_Fb _ (by have := hD.f; omega), _, c_Clone_bool _ (by have := hD.a; omega), _, c_Clone_bool _ (by have := hD.b; omega),
    _, c_Clone_bool _ (by have := hD.c; omega), _, c_Clone_bool _ (by have := hD.d; omega), rfl, rfl⟩
theorem c_spec_l06Own (x : Dat) (hl : x.g.length ≤ 1048576 ∧ x.f.length ≤ 1048576 ∧ x.a.length ≤ 1048576 ∧ x.b.length ≤ 1048576 ∧ x.c.length ≤ 1048576 ∧ x.d.length ≤ 1048576) :
    TT n_spec_l06Own [.agg x.cs] [] (.agg [.row 0, .row 1, .row 2, .row 3, .row 4, .row 5, cI x.w]) x.os :=
  r_spec_l06Own x.g x.f x.a x.b x.c x.d x.w ⟨by simp; omega, by simp; omega, by simp; omega, by simp; omega, by simp; omega, by simp; omega, rfl, by simp⟩
theorem c_impl_ApplyOp (x : Dat) (op a : Int) (st : List Int) (now : Int) (hg : x.g.length ≤ 1048576) (hl : st.length ≤ 1048576) :
    TT n_impl_ApplyOp [.agg x.cs, .agg [cI op, cI a], .one (.sl tyInt st), eI now] [] (opRE (appRes x op a st now).1.w (appCode x op a st now)) ((appRes x op a st now).1.os ++ [.row t_int tyInt (appRes x op a st now).2]) := by
  refine r_impl_ApplyOp x.g x.f x.a x.b x.c x.d x.w op a st now ?_
  unfold v_impl_ApplyOp
  refine ⟨fun n => n = preCode x op a st now, ?_, ?_⟩
  · refine ⟨_, c_impl_many_int st, _, c_impl_DataOK x hg, ifB_cases (fun hx => ?_) fun hx => ?_⟩
    · simp only [Bool.not_eq_true'] at hx
      refine ⟨_, c_impl_when _ _, _, c_impl_isTime now, _, c_impl_when _ _, _, c_impl_isControl op, _, c_impl_when _ _, ?_⟩
      have key : ∀ k : Int, firstOf_ [(if (st.length : Int) > 4096 then 2 else 0), (if true = true then 1 else 0), (if (!isTm now) = true then 4 else 0), (if isCtl op = true then 10 else 0), k] = preCode x op a st now := fun k => by
        unfold preCode
        by_cases h : (st.length : Int) > 4096
        · simp [firstOf_, h]
        · simp [firstOf_, h, hx]
      exact ifB_cases (fun _ => ⟨_, c_impl_when _ _, _, c_impl_first _ (by simp), rfl, rfl, key _⟩) fun _ => ifB_cases (fun _ => ⟨_, c_impl_when _ _, _, c_impl_first _ (by simp), rfl, rfl, key _⟩) fun _ => ⟨_, c_impl_when _ _, _, c_impl_first _ (by simp), rfl, rfl, key _⟩
    · simp only [Bool.not_eq_false'] at hx
      refine ⟨_, c_impl_InstrOK op a, _, c_impl_when _ _, _, c_impl_isTime now, _, c_impl_when _ _, _, c_impl_isControl op, _, c_impl_when _ _, ?_⟩
      have key : ∀ k : Int, k = (if (op = 19 ∨ op = 20) ∧ a ≥ (x.f.length : Int) then 5 else 0) → firstOf_ [(if (st.length : Int) > 4096 then 2 else 0), (if (!instrOK op a) = true then 1 else 0), (if (!isTm now) = true then 4 else 0), (if isCtl op = true then 10 else 0), k] = preCode x op a st now := fun k hk => by
        unfold preCode
        rw [← hk]
        by_cases h : (st.length : Int) > 4096
        · simp [firstOf_, h]
        · cases h1 : instrOK op a
          · simp [firstOf_, h, hx]
          · cases h2 : isTm now
            · simp [firstOf_, h, hx]
            · cases h3 : isCtl op
              · by_cases h4 : k = 0 <;> simp [firstOf_, h, hx, h4]
              · simp [firstOf_, h, hx]
      refine ifE (fun e => ⟨_, c_impl_when _ _, _, c_impl_first _ (by simp), rfl, rfl, key _ (by simp [e])⟩) fun n19 => ifE (fun e => ⟨_, c_impl_when _ _, _, c_impl_first _ (by simp), rfl, rfl, key _ (by simp [e])⟩) fun n20 => ⟨_, c_impl_when _ _, _, c_impl_first _ (by simp), rfl, rfl, key _ (by simp [n19, n20])⟩
  · rintro n rfl
    refine ifN (fun hn => ?_) fun hn => ?_
    · have hc : appCode x op a st now = preCode x op a st now := by unfold appCode; rw [if_pos hn]
      have hr : appRes x op a st now = (noDat, []) := by unfold appRes; rw [hc, if_neg hn]
      rw [hc, hr]
      exact ⟨rfl, rfl⟩
    obtain ⟨h1, h2, h3, h4, h5, h6⟩ := pre_zero hn
    have hD := datOK_iff.1 h2
    have hbl := block_of h3 h2 h6
    obtain ⟨hs1, hs2⟩ := effect_size op a (kindsD x.f)
    have bad : fitsM op a (kindsD x.f) st = false → appCode x op a st now = 13 ∧ appRes x op a st now = (noDat, []) := fun hf => by
      have hc : appCode x op a st now = 13 := by unfold appCode; rw [if_neg (by simpa using hn), if_pos hf]
      exact ⟨hc, by unfold appRes; rw [hc]; rfl⟩
    refine ⟨_, _, c_impl_operands x op a (by have := hD.f; omega) hbl, _, c_impl_areOn st _ hl hs1, ifB_cases (fun ho => ?_) fun ho => ?_⟩
    · simp only [Bool.not_eq_true'] at ho
      obtain ⟨b1, b2⟩ := bad (by unfold fitsM; rw [ho]; rfl)
      rw [b1, b2]
      exact ⟨rfl, rfl⟩
    simp only [Bool.not_eq_false'] at ho
    have hon := (onM_iff.1 ho).1
    rw [w64 (x := (st.length : Int) - _) (by omega), w64 (by omega)]
    refine ifP (fun h8 => ?_) fun h8 => ?_
    · obtain ⟨b1, b2⟩ := bad (by unfold fitsM; rw [ho, Bool.true_and]; simp; omega)
      rw [b1, b2]
      exact ⟨rfl, rfl⟩
    have hfit := fit_of hn ho
    have hc : appCode x op a st now = 0 := by
      unfold appCode
      rw [if_neg (by simpa using hn), if_neg]
      unfold fitsM
      rw [ho, Bool.true_and]
      simp; omega
    have hr : appRes x op a st now = appM x op a (argA x op a st) (argB x op a st) now := by unfold appRes; rw [if_pos hc]
    rw [hc, hr]
    exact ⟨_, _, _, _, _, _, _, c_impl_copyData x h2, _, _, _, _, _, _, _, _, c_impl_apply x op a st now hfit, rfl, rfl⟩
theorem c_spec_ApplyOp (x : Dat) (op a : Int) (st : List Int) (now : Int) (hl : st.length ≤ 1048576) :
    TT n_spec_ApplyOp [.agg x.cs, .agg [cI op, cI a], .one (.sl tyInt st), eI now] [] (opRE (appRes x op a st now).1.w (appCode x op a st now)) ((appRes x op a st now).1.os ++ [.row t_int tyInt (appRes x op a st now).2]) := by
  refine r_spec_ApplyOp x.g x.f x.a x.b x.c x.d x.w op a st now ?_
  unfold v_spec_ApplyOp
  have bad : ∀ n : Int, n ≠ 0 → preCode x op a st now = n → appCode x op a st now = n ∧ appRes x op a st now = (noDat, []) := fun n h0 hn => by
    have hc : appCode x op a st now = n := by unfold appCode; rw [hn, if_pos h0]
    exact ⟨hc, by unfold appRes; rw [hc, if_neg h0]⟩
  refine ifP (fun h => ?_) fun h1 => ⟨_, c_spec_DataOK x, ifB_cases (fun h => ?_) fun h2 => ⟨_, c_spec_l02OK op a, ifB_cases (fun h => ?_) fun h3 => ⟨_, c_spec_l01In _ _ _, ifB_cases (fun h => ?_) fun h4 => ?_⟩⟩⟩
  · obtain ⟨b1, b2⟩ := bad 2 (by decide) (by unfold preCode; rw [if_pos h])
    rw [b1, b2]; exact ⟨rfl, rfl⟩
  · simp only [Bool.not_eq_true'] at h
    obtain ⟨b1, b2⟩ := bad 1 (by decide) (by unfold preCode; rw [if_neg h1, if_pos h])
    rw [b1, b2]; exact ⟨rfl, rfl⟩
  · simp only [Bool.not_eq_true', Bool.not_eq_false'] at h h2
    obtain ⟨b1, b2⟩ := bad 1 (by decide) (by unfold preCode; rw [if_neg h1, if_neg (by simp [h2]), if_pos h])
    rw [b1, b2]; exact ⟨rfl, rfl⟩
  · simp only [Bool.not_eq_true', Bool.not_eq_false'] at h h2 h3
    have h : isTm now = false := h
    obtain ⟨b1, b2⟩ := bad 4 (by decide) (by unfold preCode; rw [if_neg h1, if_neg (by simp [h2]), if_neg (by simp [h3]), if_pos h])
    rw [b1, b2]; exact ⟨rfl, rfl⟩
  simp only [Bool.not_eq_false'] at h2 h3 h4
  have h4 : isTm now = true := h4
  have hop : op ≤ 26 := by
    have := h3
    simp only [instrOK, isOp, Bool.and_eq_true, within_iff] at this
    exact this.1.2
  have hctl : isCtl op = true ↔ op ≥ 21 ∧ op ≠ 25 := by
    simp only [isCtl, Bool.or_eq_true, within_iff, beq_iff_eq]; omega
  refine ⟨isCtl op = false, ?_, fun h5 => ?_⟩
  · refine ifP (fun hge => ifN (fun hne => ?_) fun he => ⟨rfl, rfl, ?_⟩) fun hlt => ⟨rfl, rfl, ?_⟩
    · obtain ⟨b1, b2⟩ := bad 10 (by decide) (by unfold preCode; rw [if_neg h1, if_neg (by simp [h2]), if_neg (by simp [h3]), if_neg (by simp [h4]), if_pos (hctl.2 ⟨hge, hne⟩)])
      rw [b1, b2]; exact ⟨rfl, rfl⟩
    · rw [← Bool.not_eq_true, hctl]; omega
    · rw [← Bool.not_eq_true, hctl]; omega
  refine ⟨op = 19 ∨ op = 20 → a < x.f.length, ?_, fun h6 => ?_⟩
  · have idx : (op = 19 ∨ op = 20) → a ≥ (x.f.length : Int) → preCode x op a st now = 5 := fun e k => by
      unfold preCode; rw [if_neg h1, if_neg (by simp [h2]), if_neg (by simp [h3]), if_neg (by simp [h4]), if_neg (by simp [h5]), if_pos ⟨e, k⟩]
    refine ifE (fun e => ifP (fun k => ?_) fun k => ⟨rfl, rfl, fun _ => by omega⟩) fun n19 => ifE (fun e => ifP (fun k => ?_) fun k => ⟨rfl, rfl, fun _ => by omega⟩) fun n20 => ⟨rfl, rfl, fun e => by omega⟩
    · obtain ⟨b1, b2⟩ := bad 5 (by decide) (idx (.inl e) k)
      rw [b1, b2]; exact ⟨rfl, rfl⟩
    · obtain ⟨b1, b2⟩ := bad 5 (by decide) (idx (.inr e) k)
      rw [b1, b2]; exact ⟨rfl, rfl⟩
  have hn : preCode x op a st now = 0 := by
    unfold preCode; rw [if_neg h1, if_neg (by simp [h2]), if_neg (by simp [h3]), if_neg (by simp [h4]), if_neg (by simp [h5]), if_neg (fun k => by have := h6 k.1; omega)]
  have hD := datOK_iff.1 h2
  refine ⟨_, c_spec_l06Kinds x (by have := hD.f; omega), _, c_spec_l06Fits op a _ st (block_of h3 h2 h6) hl, ifB_cases (fun hf => ?_) fun hf => ?_⟩
  · simp only [Bool.not_eq_true'] at hf
    have hc : appCode x op a st now = 13 := by unfold appCode; rw [if_neg (by simpa using hn), if_pos hf]
    have hr : appRes x op a st now = (noDat, []) := by unfold appRes; rw [hc]; rfl
    rw [hc, hr]; exact ⟨rfl, rfl⟩
  simp only [Bool.not_eq_false'] at hf
  have hc : appCode x op a st now = 0 := by unfold appCode; rw [if_neg (by simpa using hn), if_neg (by simp [hf])]
  have hr : appRes x op a st now = appM x op a (argA x op a st) (argB x op a st) now := by unfold appRes; rw [if_pos hc]
  have ho : onM (effect op a (kindsD x.f)).1 st = true := by
    unfold fitsM at hf
    rw [Bool.and_eq_true] at hf
    exact hf.1
  rw [hc, hr]
  have hk := appM_len x op a (argA x op a st) (argB x op a st) now
  unfold Dat.like at hk
  have := hD.g; have := hD.f; have := hD.a; have := hD.b; have := hD.c; have := hD.d
  exact ⟨_, _, _, _, _, _, _, _, c_spec_apply x op a st now (fit_of hn ho), _, _, _, _, _, _, _, c_spec_l06Own _ (by omega), rfl, rfl⟩
end Go.Ry
