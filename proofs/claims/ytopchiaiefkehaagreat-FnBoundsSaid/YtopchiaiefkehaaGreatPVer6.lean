/- Programs are checked (2); what is verified is well nested. No condition. -/
import Derived.Test.YtopchiaiefkehaaGreatPVer5
set_option linter.unusedVariables false
set_option linter.unusedSimpArgs false
namespace Go.Ry
open Go.Proofs

theorem c_spec_l08Check (ks : List Int) (rs : List Rou) (ts : List Tsk) (sf : List Bool) (h : prgSmall ks rs ts sf) :
    TT n_spec_l08Check [prgE ks rs ts sf] [] (tupII (checkM ks rs ts sf).1 (checkM ks rs ts sf).2) [] := by
  have hts := h.ts
  have hsf := h.sf
  refine r_spec_l08Check ks rs ts sf ⟨_, c_spec_l04Kinds ks h.ks, ifB_cases (fun h1 => ?_) (fun h1 => ?_)⟩
  · have e : checkM ks rs ts sf = (0, 1) := by unfold checkM; rw [if_pos (by simpa using h1)]
    rw [e]; exact ⟨rfl, rfl⟩
  have h1 : kindsOK ks = true := by simpa using h1
  refine ⟨_, c_spec_l04Routines rs h.rs, ifB_cases (fun h2 => ?_) (fun h2 => ?_)⟩
  · have e : checkM ks rs ts sf = (0, 1) := by unfold checkM; rw [if_neg (by simp [h1]), if_pos (by simpa using h2)]
    rw [e]; exact ⟨rfl, rfl⟩
  have h2 : rousOK rs = true := by simpa using h2
  have k := fun (p : Int × Int) (hp : (if sf.length ≠ 8 then (0, 1) else if (verAllM ks rs 0).2.2 ≠ 0 then ((verAllM ks rs 0).1, (verAllM ks rs 0).2.2)
    else if ts.length = 0 then (0, 5) else if 5 < ts.length then (0, 6) else chkT rs.length ts 0) = p) => show checkM ks rs ts sf = p by unfold checkM; rw [h1, h2, if_neg (by decide), if_neg (by decide)]; exact hp
  refine ifN (fun h3 => ?_) (fun h3 => ⟨_, _, _, c_spec_l04All rs ks (rousOK_fit h2) (kindsOK_in h1), ifN (fun h4 => ?_) (fun h4 => ifE (fun h5 => ?_) (fun h5 => ifP (fun h6 => ?_) (fun h6 => ?_)))⟩)
  · rw [k (0, 1) (by rw [if_pos (by omega)])]; exact ⟨rfl, rfl⟩
  · rw [k _ (by rw [if_neg (by omega), if_pos h4])]; exact ⟨rfl, rfl⟩
  · rw [k (0, 5) (by rw [if_neg (by omega), if_neg (fun e => e h4), if_pos (by omega)])]; exact ⟨rfl, rfl⟩
  · rw [k (0, 6) (by rw [if_neg (by omega), if_neg (fun e => e h4), if_neg (by omega), if_pos (by omega)])]; exact ⟨rfl, rfl⟩
  rw [k (chkT rs.length ts 0) (by rw [if_neg (by omega), if_neg (fun e => e h4), if_neg (by omega), if_neg (by omega)])]
  refine ⟨fun m i => 0 ≤ i ∧ i ≤ ts.length ∧ m = (ts.length - i).toNat ∧ chkT rs.length ts 0 = chkT rs.length (ts.drop i.toNat) i, ⟨_, rfl, by omega, by omega, rfl, rfl⟩, ?_⟩
  rintro m i ⟨h0, hi, rfl, hv⟩
  refine ifP (fun hlt => ⟨⟨h0, hlt⟩, _, c_spec_TaskOK _ _ _ _ _ _, ?_⟩) (fun hge => ?_)
  · rw [drop_getD (by omega) ((0 : Int), ((0 : Int), ((0 : Int), ((0 : Int), ((0 : Int), ((0 : Int), ()))))))] at hv
    rw [chkT_cons] at hv
    revert hv
    generalize ts.getD i.toNat ((0 : Int), ((0 : Int), ((0 : Int), ((0 : Int), ((0 : Int), ((0 : Int), ())))))) = t
    intro hv
    refine ifB_cases (fun t1 => ?_) (fun t1 => ⟨⟨h0, hlt⟩, ifP (fun t2 => ?_) (fun t2 => ?_)⟩)
    · have t1 : tskOK t = false := by
        have t1 : (!tskOK t) = true := t1
        simpa using t1
      rw [if_pos t1] at hv
      rw [hv]; exact ⟨rfl, rfl⟩
    · have t1 : ¬ tskOK t = false := by
        have t1 : (!tskOK t) = false := t1
        simpa using t1
      rw [if_neg t1, if_pos t2] at hv
      rw [hv]; exact ⟨rfl, rfl⟩
    · have t1 : ¬ tskOK t = false := by
        have t1 : (!tskOK t) = false := t1
        simpa using t1
      rw [if_neg t1, if_neg t2] at hv
      rw [w64 (by omega)]
      exact ⟨_, by omega, rfl, by omega, by omega, rfl, by rw [toNat_succ h0]; exact hv⟩
  · rw [List.drop_eq_nil_of_le (by omega)] at hv
    rw [hv]; exact ⟨rfl, rfl⟩
theorem c_impl_isProgram (ks : List Int) (rs : List Rou) (ts : List Tsk) (sf : List Bool) (h : prgSmall ks rs ts sf) : TT n_impl_isProgram [prgE ks rs ts sf] [] (eB (prgOK ks rs ts sf)) [] :=
  r_impl_isProgram ks rs ts sf ⟨_, _, c_impl_CheckProgram ks rs ts sf h, rfl, rfl⟩
theorem c_spec_l08OK (ks : List Int) (rs : List Rou) (ts : List Tsk) (sf : List Bool) (h : prgSmall ks rs ts sf) : TT n_spec_l08OK [prgE ks rs ts sf] [] (eB (prgOK ks rs ts sf)) [] :=
  r_spec_l08OK ks rs ts sf ⟨_, _, c_spec_l08Check ks rs ts sf h, rfl, rfl⟩

/-! ### what a program that is right is like -/
structure PrgFit (ks : List Int) (rs : List Rou) (ts : List Tsk) (sf : List Bool) : Prop where
  hk : kindsOK ks = true
  hr : rousOK rs = true
  hs : sf.length = 8
  ver : (verAllM ks rs 0).2.2 = 0
  ts0 : 0 < ts.length
  ts5 : ts.length ≤ 5
  hts : ∀ t ∈ ts, tskOK t = true ∧ t.2.2.2.2.2.1 < rs.length
theorem chkT_ok {n : Int} : ∀ {l : List Tsk} {i : Int}, (chkT n l i).2 = 0 → ∀ t ∈ l, tskOK t = true ∧ t.2.2.2.2.2.1 < n
  | [], _, _, t, ht => by simp at ht
  | x :: l, i, h, t, ht => by
    rw [chkT_cons] at h
    split at h
    · simp at h
    split at h
    · simp at h
    rename_i h1 h2
    rcases List.mem_cons.1 ht with rfl | ht
    · exact ⟨by simpa using h1, by omega⟩
    · exact chkT_ok h t ht
theorem prgOK_fit {ks : List Int} {rs : List Rou} {ts : List Tsk} {sf : List Bool} (h : prgOK ks rs ts sf = true) : PrgFit ks rs ts sf := by
  unfold prgOK checkM at h
  split at h
  · simp at h
  split at h
  · simp at h
  split at h
  · simp at h
  split at h
  · rename_i h1
    simp only [beq_iff_eq] at h
    exact absurd h h1
  split at h
  · simp at h
  split at h
  · simp at h
  rename_i h1 h2 h3 h4 h5 h6
  exact ⟨by simpa using h1, by simpa using h2, by omega, by omega, by omega, by omega, chkT_ok (by simpa using h)⟩
theorem verAllM_ok {ks : List Int} : ∀ {l : List Rou} {i : Int}, (verAllM ks l i).2.2 = 0 → ∀ (k : Nat) (r : Rou), l[k]? = some r → (verM ks (i + k) r.1).2 = 0
  | [], _, _, k, r, hk => by simp at hk
  | x :: l, i, h, k, r, hk => by
    rw [verAllM_cons] at h
    split at h
    · rename_i h1; exact absurd h h1
    rename_i h1
    cases k with
    | zero =>
      simp only [List.getElem?_cons_zero, Option.some.injEq] at hk
      subst hk
      simpa using h1
    | succ k =>
      have := verAllM_ok h k r (by simpa using hk)
      rw [show i + ((k + 1 : Nat) : Int) = i + 1 + k by omega]
      exact this

/-! ### nesting -/
/-- A list of instructions whose branches and loops are all closed, where d of them are open. -/
def bal : List Ins → Nat → Prop
  | [], d => d = 0
  | x :: l, d => if x.1 = 21 ∨ x.1 = 24 then bal l (d + 1) else if x.1 = 23 then 0 < d ∧ bal l (d - 1) else bal l d
theorem bal_cons {x : Ins} {l : List Ins} {d : Nat} : bal (x :: l) d ↔ if x.1 = 21 ∨ x.1 = 24 then bal l (d + 1) else if x.1 = 23 then 0 < d ∧ bal l (d - 1) else bal l d := Iff.rfl
theorem stepS_len {at_ op a : Int} {ks : List Int} {n : Int} {s : ByteArray} {o : List OS} (h : (stepS at_ op a ks n s o).1 = 0) :
    if op = 21 ∨ op = 24 then (stepS at_ op a ks n s o).2.2.length = o.length + 1 else if op = 23 then 0 < o.length ∧ (stepS at_ op a ks n s o).2.2.length = o.length - 1 else (stepS at_ op a ks n s o).2.2.length = o.length := by
  have key : ∀ s', (nestS at_ op s' o).1 = 0 → within op 21 24 = true → if op = 21 ∨ op = 24 then (nestS at_ op s' o).2.length = o.length + 1 else if op = 23 then 0 < o.length ∧ (nestS at_ op s' o).2.length = o.length - 1 else (nestS at_ op s' o).2.length = o.length := by
    intro s' h0 hw
    have hw := within_iff.1 hw
    unfold nestS at h0 ⊢
    by_cases h1 : op = 21 ∨ op = 24
    · simp only [if_pos h1] at h0 ⊢
      split at h0
      · simp at h0
      · rename_i h2; rw [if_neg h2]; simp
    · simp only [if_neg h1] at h0 ⊢
      split at h0
      · simp at h0
      · rename_i h2
        split at h0
        · simp at h0
        · rename_i h3
          rw [if_neg h2, if_neg h3]
          by_cases h4 : op = 22
          · rw [if_neg (by omega), if_pos h4]; simp
          · rw [if_pos (by omega), if_neg h4]
            refine ⟨by omega, ?_⟩
            simp
  unfold stepS at h ⊢
  split at h
  · simp at h
  split at h
  · simp at h
  split at h
  · rename_i h1; exact absurd h h1
  split at h
  · simp at h
  rename_i h1 h2 h3 h4
  rw [if_neg h1, if_neg h2, if_neg h3, if_neg h4]
  split at h
  · rename_i h5
    rw [if_pos h5]
    exact key _ h h5
  · rename_i h5
    rw [if_neg h5]
    have h5' : ¬ (21 ≤ op ∧ op ≤ 24) := fun e => h5 (within_iff.2 e)
    rw [if_neg (by omega), if_neg (by omega)]
theorem verS_bal {ks : List Int} {n : Int} : ∀ {l : List Ins} {i : Int} {s : ByteArray} {o : List OS}, (verS ks n l i s o).2 = 0 → bal l o.length
  | [], i, s, o, h => by
    rw [verS_nil] at h
    split at h
    · simp at h
    · show o.length = 0
      omega
  | x :: l, i, s, o, h => by
    rw [verS_cons] at h
    split at h
    · rename_i h1; exact absurd h h1
    rename_i h1
    have h1 : (stepS i x.1 x.2.1 ks n s o).1 = 0 := by simpa using h1
    have := stepS_len h1
    have ih := verS_bal h
    rw [bal_cons]
    split at this
    · rename_i h2; rw [if_pos h2, ← this]; exact ih
    · rename_i h2
      rw [if_neg h2]
      split at this
      · rename_i h3; rw [if_pos h3]; exact ⟨this.1, this.2 ▸ ih⟩
      · rename_i h3; rw [if_neg h3]; exact this ▸ ih
theorem verM_bal {ks : List Int} {n : Int} {l : List Ins} (h : (verM ks n l).2 = 0) : bal l 0 := verS_bal (o := []) h
/-- No call but of those that are there. -/
theorem verS_calls {ks : List Int} {n : Int} : ∀ {l : List Ins} {i : Int} {s : ByteArray} {o : List OS}, (verS ks n l i s o).2 = 0 → ∀ x ∈ l, x.1 = 26 → x.2.1 < n
  | [], _, _, _, _, x, hx, _ => by simp at hx
  | y :: l, i, s, o, h, x, hx, h26 => by
    rw [verS_cons] at h
    split at h
    · rename_i h1; exact absurd h h1
    rename_i h1
    rcases List.mem_cons.1 hx with rfl | hx
    · have h1 : (stepS i x.1 x.2.1 ks n s o).1 = 0 := by simpa using h1
      rcases Int.lt_or_le x.2.1 n with hlt | hge
      · exact hlt
      · unfold stepS at h1
        rw [if_neg (by omega), if_pos ⟨h26, hge⟩] at h1
        simp at h1
    · exact verS_calls h x hx h26
end Go.Ry
