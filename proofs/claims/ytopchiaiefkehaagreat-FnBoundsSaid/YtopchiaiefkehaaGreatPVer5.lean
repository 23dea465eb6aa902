/- The verifiers' loops; programs. No condition. -/
import Derived.Test.YtopchiaiefkehaaGreatPVer4
set_option linter.unusedVariables false
set_option linter.unusedSimpArgs false
namespace Go.Ry
open Go.Proofs

def verI (ks : List Int) (n : Int) : List Ins → Int → ByteArray → List OI → List ByteArray → List ByteArray × Int × Int
  | [], i, s, o, acc => if 0 < o.length then ([], (lastI o).1, 14) else if s ≠ e0 then ([], i, 13) else (acc ++ [e0], 0, 0)
  | x :: l, i, s, o, acc => if (stepI i x.1 x.2.1 ks n s o).1 ≠ 0 then ([], i, (stepI i x.1 x.2.1 ks n s o).1)
    else verI ks n l (i + 1) (stepI i x.1 x.2.1 ks n s o).2.1 (stepI i x.1 x.2.1 ks n s o).2.2 (acc ++ [s])
def verS (ks : List Int) (n : Int) : List Ins → Int → ByteArray → List OS → Int × Int
  | [], i, s, o => if 0 < o.length then ((lastS o).1, 14) else if s ≠ e0 then (i, 13) else (0, 0)
  | x :: l, i, s, o => if (stepS i x.1 x.2.1 ks n s o).1 ≠ 0 then (i, (stepS i x.1 x.2.1 ks n s o).1)
    else verS ks n l (i + 1) (stepS i x.1 x.2.1 ks n s o).2.1 (stepS i x.1 x.2.1 ks n s o).2.2
theorem verI_nil {ks : List Int} {n i : Int} {s : ByteArray} {o : List OI} {acc : List ByteArray} : verI ks n [] i s o acc = if 0 < o.length then ([], (lastI o).1, 14) else if s ≠ e0 then ([], i, 13) else (acc ++ [e0], 0, 0) := rfl
theorem verI_cons {ks : List Int} {n i : Int} {x : Ins} {l : List Ins} {s : ByteArray} {o : List OI} {acc : List ByteArray} : verI ks n (x :: l) i s o acc = if (stepI i x.1 x.2.1 ks n s o).1 ≠ 0 then ([], i, (stepI i x.1 x.2.1 ks n s o).1)
    else verI ks n l (i + 1) (stepI i x.1 x.2.1 ks n s o).2.1 (stepI i x.1 x.2.1 ks n s o).2.2 (acc ++ [s]) := rfl
theorem verS_nil {ks : List Int} {n i : Int} {s : ByteArray} {o : List OS} : verS ks n [] i s o = if 0 < o.length then ((lastS o).1, 14) else if s ≠ e0 then (i, 13) else (0, 0) := rfl
theorem verS_cons {ks : List Int} {n i : Int} {x : Ins} {l : List Ins} {s : ByteArray} {o : List OS} : verS ks n (x :: l) i s o = if (stepS i x.1 x.2.1 ks n s o).1 ≠ 0 then (i, (stepS i x.1 x.2.1 ks n s o).1)
    else verS ks n l (i + 1) (stepS i x.1 x.2.1 ks n s o).2.1 (stepS i x.1 x.2.1 ks n s o).2.2 := rfl
theorem ver_rel {ks : List Int} {n : Int} : ∀ {l : List Ins} {i : Int} {s : ByteArray} {o : List OS} {acc : List ByteArray}, Open s o → (verI ks n l i s (o.map toI) acc).2 = verS ks n l i s o
  | [], i, s, o, acc, h => by
    rw [verI_nil, verS_nil, List.length_map]
    by_cases h0 : 0 < o.length
    · rw [if_pos h0, if_pos h0, last_map (by omega)]; rfl
    · rw [if_neg h0, if_neg h0]
      split <;> rfl
  | x :: l, i, s, o, acc, h => by
    rw [verI_cons, verS_cons]
    obtain ⟨k1, k2⟩ := step_rel (at_ := i) (op := x.1) (a := x.2.1) (ks := ks) (n := n) h
    rw [k1]
    by_cases h0 : (stepS i x.1 x.2.1 ks n s o).1 = 0
    · rw [if_neg (fun e => e h0), if_neg (fun e => e h0)]
      obtain ⟨e1, e2, e3⟩ := k2 h0
      rw [e1, e2]
      exact ver_rel e3
    · rw [if_pos h0, if_pos h0]
theorem Open.nil : Open e0 [] := ⟨by simp, by decide, by simp, by simp⟩
/-- What the verifiers say of a code. -/
def verM (ks : List Int) (n : Int) (l : List Ins) : Int × Int := verS ks n l 0 e0 []

def codeFit (l : List Ins) : Prop := l.length ≤ 40 ∧ ∀ x ∈ l, 0 ≤ x.2.1 ∨ x.1 ≠ 19
theorem codeFit.at {l : List Ins} (h : codeFit l) {i : Nat} (hi : i < l.length) : 0 ≤ (l.getD i ((0 : Int), ((0 : Int), ()))).2.1 ∨ (l.getD i ((0 : Int), ((0 : Int), ()))).1 ≠ 19 := by
  rw [List.getD_eq_getElem?_getD, List.getElem?_eq_getElem hi]
  exact h.2 _ (List.getElem_mem hi)
theorem codeOK_fit {l : List Ins} (h : codeOK l = true) : codeFit l := by
  simp only [codeOK, Bool.and_eq_true, decide_eq_true_eq, List.all_eq_true] at h
  refine ⟨h.1, fun x hx => ?_⟩
  have := h.2 x hx
  simp only [insOK, instrOK, Bool.and_eq_true] at this
  have hw := within_iff.1 this.2
  by_cases e : x.1 = 19
  · left
    rw [e] at hw
    exact hw.1
  · exact .inr e
theorem kindsOK_in {ks : List Int} (h : kindsOK ks = true) : kindsIn ks := by
  simp only [kindsOK, Bool.and_eq_true, decide_eq_true_eq, List.all_eq_true] at h
  refine ⟨h.1, fun i hi => ?_⟩
  rw [List.getD_eq_getElem?_getD, List.getElem?_eq_getElem hi]
  exact h.2 _ (List.getElem_mem hi)

@[reducible] def verE (at_ c : Int) : Ent := .tup [(false, [.row 0]), (false, [cI at_]), (false, [cI c])]
theorem c_impl_verify (l : List Ins) (ks : List Int) (n : Int) (hl : codeFit l) (hk : kindsIn ks) :
    TT n_impl_verify [.one (.sl tIns l), .one (.sl (.int .i64) ks), eI n] [] (verE (verI ks n l 0 e0 [] []).2.1 (verI ks n l 0 e0 [] []).2.2) [.row t_string .str (verI ks n l 0 e0 [] []).1] := by
  have hl1 := hl.1
  refine r_impl_verify l ks n ⟨fun ks' n' s acc o => ks' = ks ∧ n' = n ∧ ∃ p, Open s p ∧ o = p.map toI ∧ acc.length ≤ 40 ∧ verI ks n l 0 e0 [] [] = verI ks n [] l.length s o acc,
    ⟨fun m i ks' n' s acc o => ks' = ks ∧ n' = n ∧ 0 ≤ i ∧ i ≤ l.length ∧ m = (l.length - i).toNat ∧ ∃ p, Open s p ∧ o = p.map toI ∧ acc.length = i.toNat ∧ verI ks n l 0 e0 [] [] = verI ks n (l.drop i.toNat) i s o acc,
      ⟨_, rfl, rfl, rfl, by omega, by omega, rfl, [], Open.nil, rfl, rfl, rfl⟩, ?_⟩, ?_⟩
  · rintro m i ks' n' s acc o ⟨rfl, rfl, h0, h1, rfl, p, hp, rfl, ha, hv⟩
    refine ifP (fun hlt => ⟨⟨h0, hlt⟩, by simp; omega, _, _, _, _, _, c_impl_step i _ _ ks' n' s (p.map toI) (by simpa using hp.len) hp.size (by rw [base_map]; exact hp.floor.1) hk (hl.at (by omega)), ?_⟩) (fun hge => ?_)
    · rw [drop_getD (by omega) ((0 : Int), ((0 : Int), ()))] at hv
      obtain ⟨k1, k2⟩ := step_rel (at_ := i) (op := (l.getD i.toNat ((0 : Int), ((0 : Int), ()))).1) (a := (l.getD i.toNat ((0 : Int), ((0 : Int), ()))).2.1) (ks := ks') (n := n') hp
      rw [verI_cons] at hv
      refine ifN (fun hne => ?_) (fun he => ?_)
      · rw [if_pos hne] at hv
        rw [hv]; exact ⟨rfl, rfl⟩
      · rw [if_neg (fun e => e he)] at hv
        obtain ⟨e1, e2, e3⟩ := k2 (k1 ▸ he)
        rw [w64 (by omega)]
        exact ⟨_, by omega, rfl, rfl, rfl, by omega, by omega, rfl, _, e1 ▸ e3, e2, by simp; omega, by rw [toNat_succ h0]; exact hv⟩
    · have hi : i = l.length := by omega
      rw [List.drop_eq_nil_of_le (by omega)] at hv
      subst hi
      exact ⟨rfl, rfl, rfl, p, hp, rfl, by omega, hv⟩
  · rintro ks' n' s acc o ⟨rfl, rfl, p, hp, rfl, ha, hv⟩
    rw [hv, verI_nil]
    have hpl := hp.len
    refine ifP (fun h => ?_) (fun h => ?_)
    · rw [last_nat (by simpa using hpl) (by omega), last_int (by simpa using hpl), if_pos (by omega)]
      exact ⟨by omega, rfl, rfl⟩
    · rw [if_neg (by omega), toList_beq]
      refine ifB_cases (fun h2 => ?_) (fun h2 => ⟨by simp; omega, ?_⟩)
      · rw [if_pos (by simpa using h2)]; exact ⟨rfl, rfl⟩
      · rw [if_neg (by simpa using h2)]; exact ⟨rfl, rfl⟩
theorem c_spec_verify (l : List Ins) (ks : List Int) (n : Int) (hl : codeFit l) (hk : kindsIn ks) :
    TT n_spec_l04Verify [.one (.sl tIns l), .one (.sl (.int .i64) ks), eI n] [] (.tup [(false, [cI (verM ks n l).1]), (false, [cI (verM ks n l).2])]) [] := by
  have hl1 := hl.1
  refine r_spec_l04Verify l ks n ⟨fun s o => Open s o ∧ verM ks n l = verS ks n [] l.length s o,
    ⟨fun m i s o => 0 ≤ i ∧ i ≤ l.length ∧ m = (l.length - i).toNat ∧ Open s o ∧ verM ks n l = verS ks n (l.drop i.toNat) i s o,
      ⟨_, rfl, by omega, by omega, rfl, Open.nil, rfl⟩, ?_⟩, ?_⟩
  · rintro m i s o ⟨h0, h1, rfl, hp, hv⟩
    refine ifP (fun hlt => ⟨⟨h0, hlt⟩, _, _, _, c_spec_step i _ _ ks n s o hp.len hp.size hp.floor hk (hl.at (by omega)), ?_⟩) (fun hge => ?_)
    · rw [drop_getD (by omega) ((0 : Int), ((0 : Int), ()))] at hv
      obtain ⟨k1, k2⟩ := step_rel (at_ := i) (op := (l.getD i.toNat ((0 : Int), ((0 : Int), ()))).1) (a := (l.getD i.toNat ((0 : Int), ((0 : Int), ()))).2.1) (ks := ks) (n := n) hp
      rw [verS_cons] at hv
      refine ifN (fun hne => ?_) (fun he => ?_)
      · rw [if_pos hne] at hv
        rw [hv]; exact ⟨rfl, rfl⟩
      · rw [if_neg (fun e => e he)] at hv
        obtain ⟨e1, e2, e3⟩ := k2 he
        rw [w64 (by omega)]
        exact ⟨_, by omega, rfl, by omega, by omega, rfl, e3, by rw [toNat_succ h0]; exact hv⟩
    · have hi : i = l.length := by omega
      rw [List.drop_eq_nil_of_le (by omega)] at hv
      subst hi
      exact ⟨rfl, hp, hv⟩
  · rintro s o ⟨hp, hv⟩
    rw [hv, verS_nil]
    have hpl := hp.len
    refine ifP (fun h => ?_) (fun h => ?_)
    · rw [last_nat hpl (by omega), last_int hpl, if_pos (by omega)]
      exact ⟨by omega, rfl, rfl⟩
    · rw [if_neg (by omega), toList_beq]
      refine ifB_cases (fun h2 => ?_) (fun h2 => ?_)
      · rw [if_pos (by simpa using h2)]; exact ⟨rfl, rfl⟩
      · rw [if_neg (by simpa using h2)]; exact ⟨rfl, rfl⟩
theorem verI_verM (ks : List Int) (n : Int) (l : List Ins) : (verI ks n l 0 e0 [] []).2 = verM ks n l := ver_rel (o := []) Open.nil

/-! ### all routines -/
def verAllM (ks : List Int) : List Rou → Int → Int × Int × Int
  | [], _ => (0, 0, 0)
  | r :: l, i => if (verM ks i r.1).2 ≠ 0 then (i, (verM ks i r.1).1, (verM ks i r.1).2) else verAllM ks l (i + 1)
theorem verAllM_cons {ks : List Int} {r : Rou} {l : List Rou} {i : Int} : verAllM ks (r :: l) i = if (verM ks i r.1).2 ≠ 0 then (i, (verM ks i r.1).1, (verM ks i r.1).2) else verAllM ks l (i + 1) := rfl
@[reducible] def tupIII (a b c : Int) : Ent := .tup [(false, [cI a]), (false, [cI b]), (false, [cI c])]
def rousFit (rs : List Rou) : Prop := rs.length ≤ 6 ∧ ∀ r ∈ rs, codeFit r.1
theorem rousOK_fit {rs : List Rou} (h : rousOK rs = true) : rousFit rs := by
  simp only [rousOK, Bool.and_eq_true, decide_eq_true_eq, List.all_eq_true] at h
  exact ⟨h.1, fun r hr => codeOK_fit (h.2 r hr)⟩
theorem rousFit.at {rs : List Rou} (h : rousFit rs) {i : Nat} (hi : i < rs.length) : codeFit (rs.getD i (([] : List Ins), ())).1 := by
  rw [List.getD_eq_getElem?_getD, List.getElem?_eq_getElem hi]
  exact h.2 _ (List.getElem_mem hi)
theorem c_impl_verifyAll (rs : List Rou) (ks : List Int) (hr : rousFit rs) (hk : kindsIn ks) :
    TT n_impl_verifyAll [.one (.sl tRou rs), .one (.sl (.int .i64) ks)] [] (tupIII (verAllM ks rs 0).1 (verAllM ks rs 0).2.1 (verAllM ks rs 0).2.2) [] := by
  have hr1 := hr.1
  refine r_impl_verifyAll rs ks ⟨fun m i => 0 ≤ i ∧ i ≤ rs.length ∧ m = (rs.length - i).toNat ∧ verAllM ks rs 0 = verAllM ks (rs.drop i.toNat) i, ⟨_, rfl, by omega, by omega, rfl, rfl⟩, ?_⟩
  rintro m i ⟨h0, h1, rfl, hv⟩
  refine ifP (fun hlt => ⟨⟨h0, hlt⟩, _, _, _, c_impl_verify _ ks i (hr.at (by omega)) hk, ?_⟩) (fun hge => ?_)
  · rw [verI_verM]
    rw [drop_getD (by omega) (([] : List Ins), ())] at hv
    rw [verAllM_cons] at hv
    refine ifN (fun hne => ?_) (fun he => ?_)
    · rw [if_pos hne] at hv
      rw [hv]; exact ⟨rfl, rfl⟩
    · rw [if_neg (fun e => e he)] at hv
      rw [w64 (by omega)]
      exact ⟨_, by omega, rfl, by omega, by omega, rfl, by rw [toNat_succ h0]; exact hv⟩
  · rw [List.drop_eq_nil_of_le (by omega)] at hv
    rw [hv]; exact ⟨rfl, rfl⟩
theorem c_spec_l04All (rs : List Rou) (ks : List Int) (hr : rousFit rs) (hk : kindsIn ks) :
    TT n_spec_l04All [.one (.sl tRou rs), .one (.sl (.int .i64) ks)] [] (tupIII (verAllM ks rs 0).1 (verAllM ks rs 0).2.1 (verAllM ks rs 0).2.2) [] := by
  have hr1 := hr.1
  refine r_spec_l04All rs ks ⟨fun m i => 0 ≤ i ∧ i ≤ rs.length ∧ m = (rs.length - i).toNat ∧ verAllM ks rs 0 = verAllM ks (rs.drop i.toNat) i, ⟨_, rfl, by omega, by omega, rfl, rfl⟩, ?_⟩
  rintro m i ⟨h0, h1, rfl, hv⟩
  refine ifP (fun hlt => ⟨⟨h0, hlt⟩, _, _, c_spec_verify _ ks i (hr.at (by omega)) hk, ?_⟩) (fun hge => ?_)
  · rw [drop_getD (by omega) (([] : List Ins), ())] at hv
    rw [verAllM_cons] at hv
    refine ifN (fun hne => ?_) (fun he => ?_)
    · rw [if_pos hne] at hv
      rw [hv]; exact ⟨rfl, rfl⟩
    · rw [if_neg (fun e => e he)] at hv
      rw [w64 (by omega)]
      exact ⟨_, by omega, rfl, by omega, by omega, rfl, by rw [toNat_succ h0]; exact hv⟩
  · rw [List.drop_eq_nil_of_le (by omega)] at hv
    rw [hv]; exact ⟨rfl, rfl⟩

/-! ### programs -/
abbrev Tsk := Int × Int × Int × Int × Int × Int × Unit
@[reducible] def tTsk : Ty := .pair (.int .i64) (.pair (.int .i64) (.pair (.int .i64) (.pair (.int .i64) (.pair (.int .i64) (.pair (.int .i64) .unit)))))
@[reducible] def dTsk : Tsk := ((0 : Int), ((0 : Int), ((0 : Int), ((0 : Int), ((0 : Int), ((0 : Int), ()))))))
def tskOK (t : Tsk) : Bool := taskOK t.1 t.2.1 t.2.2.1 t.2.2.2.1 t.2.2.2.2.1 t.2.2.2.2.2.1
@[reducible] def prgE (ks : List Int) (rs : List Rou) (ts : List Tsk) (sf : List Bool) : Ent := .agg [.sl (.int .i64) ks, .sl tRou rs, .sl tTsk ts, .sl .bool sf]
def chkT (n : Int) : List Tsk → Int → Int × Int
  | [], _ => (0, 0)
  | t :: l, i => if tskOK t = false then (i, 10) else if n ≤ t.2.2.2.2.2.1 then (i, 15) else chkT n l (i + 1)
theorem chkT_cons {n : Int} {t : Tsk} {l : List Tsk} {i : Int} : chkT n (t :: l) i = if tskOK t = false then (i, 10) else if n ≤ t.2.2.2.2.2.1 then (i, 15) else chkT n l (i + 1) := rfl
def checkM (ks : List Int) (rs : List Rou) (ts : List Tsk) (sf : List Bool) : Int × Int :=
  if kindsOK ks = false then (0, 1) else if rousOK rs = false then (0, 1) else if sf.length ≠ 8 then (0, 1)
  else if (verAllM ks rs 0).2.2 ≠ 0 then ((verAllM ks rs 0).1, (verAllM ks rs 0).2.2)
  else if ts.length = 0 then (0, 5) else if 5 < ts.length then (0, 6) else chkT rs.length ts 0
def prgOK (ks : List Int) (rs : List Rou) (ts : List Tsk) (sf : List Bool) : Bool := (checkM ks rs ts sf).2 == 0
@[reducible] def tupII (a b : Int) : Ent := .tup [(false, [cI a]), (false, [cI b])]
structure prgSmall (ks : List Int) (rs : List Rou) (ts : List Tsk) (sf : List Bool) : Prop where
  ks : ks.length ≤ 1048576
  rs : small rs
  ts : ts.length ≤ 1048576
  sf : sf.length ≤ 1048576
theorem c_impl_CheckProgram (ks : List Int) (rs : List Rou) (ts : List Tsk) (sf : List Bool) (h : prgSmall ks rs ts sf) :
    TT n_impl_CheckProgram [prgE ks rs ts sf] [] (tupII (checkM ks rs ts sf).1 (checkM ks rs ts sf).2) [] := by
  have hts := h.ts
  have hsf := h.sf
  refine r_impl_CheckProgram ks rs ts sf ⟨_, c_impl_areRoutines rs ks h.rs h.ks, ifB_cases (fun h1 => ?_) (fun h1 => ?_)⟩
  · have : checkM ks rs ts sf = (0, 1) := by
      unfold checkM
      cases e1 : kindsOK ks
      · rfl
      · cases e2 : rousOK rs
        · rfl
        · rw [e1, e2] at h1; simp at h1
    rw [this]; exact ⟨rfl, rfl⟩
  simp only [Bool.not_eq_false', Bool.and_eq_true] at h1
  obtain ⟨e1, e2⟩ := h1
  have k := fun (p : Int × Int) (hp : (if sf.length ≠ 8 then (0, 1) else if (verAllM ks rs 0).2.2 ≠ 0 then ((verAllM ks rs 0).1, (verAllM ks rs 0).2.2)
    else if ts.length = 0 then (0, 5) else if 5 < ts.length then (0, 6) else chkT rs.length ts 0) = p) => show checkM ks rs ts sf = p by unfold checkM; rw [e1, e2, if_neg (by decide), if_neg (by decide)]; exact hp
  refine ifN (fun h2 => ?_) (fun h2 => ⟨_, _, _, c_impl_verifyAll rs ks (rousOK_fit e2) (kindsOK_in e1), ifN (fun h3 => ?_) (fun h3 => ?_)⟩)
  · rw [k (0, 1) (by rw [if_pos (by omega)])]; exact ⟨rfl, rfl⟩
  · rw [k _ (by rw [if_neg (by omega), if_pos h3])]; exact ⟨rfl, rfl⟩
  refine ⟨_, c_impl_when _ _, _, c_impl_when _ _, _, c_impl_first _ (by simp), ?_⟩
  by_cases h4 : ts.length = 0
  · rw [k (0, 5) (by rw [if_neg (by omega), if_neg (fun e => e h3), if_pos h4])]
    have q1 : (((ts.length : Int) == 0)) = true := by simpa using h4
    have q2 : decide ((ts.length : Int) > 5) = false := decide_eq_false (by omega)
    rw [q1, q2]
    exact ifN_t (by decide) ⟨rfl, rfl⟩
  by_cases h5 : 5 < ts.length
  · rw [k (0, 6) (by rw [if_neg (by omega), if_neg (fun e => e h3), if_neg h4, if_pos h5])]
    have q1 : (((ts.length : Int) == 0)) = false := by simpa using h4
    have q2 : decide ((ts.length : Int) > 5) = true := decide_eq_true (by omega)
    rw [q1, q2]
    exact ifN_t (by decide) ⟨rfl, rfl⟩
  have q1 : (((ts.length : Int) == 0)) = false := by simpa using h4
  have q2 : decide ((ts.length : Int) > 5) = false := decide_eq_false (by omega)
  rw [q1, q2, k (chkT rs.length ts 0) (by rw [if_neg (by omega), if_neg (fun e => e h3), if_neg h4, if_neg h5])]
  refine ifN_f rfl ⟨fun m i => 0 ≤ i ∧ i ≤ ts.length ∧ m = (ts.length - i).toNat ∧ chkT rs.length ts 0 = chkT rs.length (ts.drop i.toNat) i, ⟨_, rfl, rfl, by omega, by omega, rfl, rfl⟩, ?_⟩
  rintro m i ⟨h0, hi, rfl, hv⟩
  refine ifP (fun hlt => ⟨⟨h0, hlt⟩, _, c_impl_TaskOK _ _ _ _ _ _, _, c_impl_when _ _, _, c_impl_when _ _, _, c_impl_first _ (by simp), ?_⟩) (fun hge => ?_)
  · rw [drop_getD (by omega) ((0 : Int), ((0 : Int), ((0 : Int), ((0 : Int), ((0 : Int), ((0 : Int), ()))))))] at hv
    rw [chkT_cons] at hv
    revert hv
    generalize ts.getD i.toNat ((0 : Int), ((0 : Int), ((0 : Int), ((0 : Int), ((0 : Int), ((0 : Int), ())))))) = t
    intro hv
    by_cases t1 : tskOK t = true
    · by_cases t2 : (rs.length : Int) ≤ t.2.2.2.2.2.1
      · rw [if_neg (by rw [t1]; simp), if_pos t2] at hv
        have t1' : taskOK t.1 t.2.1 t.2.2.1 t.2.2.2.1 t.2.2.2.2.1 t.2.2.2.2.2.1 = true := t1
        rw [hv, t1', decide_eq_true t2]
        exact ifN_t (by decide) ⟨rfl, rfl⟩
      · rw [if_neg (by rw [t1]; simp), if_neg t2] at hv
        have t1' : taskOK t.1 t.2.1 t.2.2.1 t.2.2.2.1 t.2.2.2.2.1 t.2.2.2.2.2.1 = true := t1
        rw [t1', decide_eq_false t2, w64 (by omega)]
        exact ifN_f rfl ⟨_, by omega, rfl, rfl, by omega, by omega, rfl, by rw [toNat_succ h0]; exact hv⟩
    · have t1 : tskOK t = false := by simpa using t1
      rw [if_pos t1] at hv
      have t1' : taskOK t.1 t.2.1 t.2.2.1 t.2.2.2.1 t.2.2.2.2.1 t.2.2.2.2.2.1 = false := t1
      rw [hv, t1']
      exact ifN_t (by simp [firstOf_]) ⟨by simp [firstOf_], rfl⟩
  · rw [List.drop_eq_nil_of_le (by omega)] at hv
    rw [hv]; exact ⟨rfl, rfl⟩
end Go.Ry
