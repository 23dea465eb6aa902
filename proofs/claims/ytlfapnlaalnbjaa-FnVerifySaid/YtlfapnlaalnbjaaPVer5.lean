/- The verifiers' loops; programs. No condition. -/
import Derived.Test.YtlfapnlaalnbjaaPVer4
set_option linter.unusedVariables false
set_option linter.unusedSimpArgs false
namespace Go.Ry
open Go.Proofs

def verI (ks : List Int) (n : Int) : List Ins → Int → ByteArray → List OI → List ByteArray → List ByteArray × Int × Int
  | [], i, s, o, acc => if 0 < o.length then ([], (lastI o).1, 14) else if s ≠ e0 then ([], i, 13) else (acc ++ [e0], 0, 0)
  | x :: l, i, s, o, acc => if (stepI i x.1 x.2.1 ks n s o).1 ≠ 0 then ([], i, (stepI i x.1 x.2.1 ks n s o).1)
    else verI ks n l (i + 1) (stepI i x.1 x.2.1 ks n s o).2.1 (stepI i x.1 x.2.1 ks n s o).2.2 (acc ++ [s])
def verS (ks : List Int) (n : Int) : List Ins → Int → ByteArray → List OS → Int × Int
  | [], i, s, o => if 0 < o.length then ((lastS o).1, 14) else if s ≠ e0 then (i, 13) else (0, 0)
  | x :: l, i, s, o => if (stepS i x.1 x.2.1 ks n s o).1 ≠ 0 then (i, (stepS i x.1 x.2.1 ks n s o).1)
    else verS ks n l (i + 1) (stepS i x.1 x.2.1 ks n s o).2.1 (stepS i x.1 x.2.1 ks n s o).2.2
theorem verI_nil {ks : List Int} {n i : Int} {s : ByteArray} {o : List OI} {acc : List ByteArray} : verI ks n [] i s o acc = if 0 < o.length then ([], (lastI o).1, 14) else if s ≠ e0 then ([], i, 13) else (acc ++ [e0], 0, 0) := rfl
theorem verI_cons {ks : List Int} {n i : Int} {x : Ins} {l : List Ins} {s : ByteArray} {o : List OI} {acc : List ByteArray} : verI ks n (x :: l) i s o acc = if (stepI i x.1 x.2.1 ks n s o).1 ≠ 0 then ([], i, (stepI i x.1 x.2.1 ks n s o).1)
    else verI ks n l (i + 1) (stepI i x.1 x.2.1 ks n s o).2.1 (stepI i x.1 x.2.1 ks n s o).2.2 (acc ++ [s]) := rfl
theorem verS_nil {ks : List Int} {n i : Int} {s : ByteArray} {o : List OS} : verS ks n [] i s o = if 0 < o.length then ((lastS o).1, 14) else if s ≠ e0 then (i, 13) else (0, 0) := rfl
theorem verS_cons {ks : List Int} {n i : Int} {x : Ins} {l : List Ins} {s : ByteArray} {o : List OS} : verS ks n (x :: l) i s o = if (stepS i x.1 x.2.1 ks n s o).1 ≠ 0 then (i, (stepS i x.1 x.2.1 ks n s o).1)
    else verS ks n l (i + 1) (stepS i x.1 x.2.1 ks n s o).2.1 (stepS i x.1 x.2.1 ks n s o).2.2 := rfl
theorem ver_rel {ks : List Int} {n : Int} : ∀ {l : List Ins} {i : Int} {s : ByteArray} {o : List OS} {acc : List ByteArray}, Open s o → (verI ks n l i s (o.map toI) acc).2 = verS ks n l i s o
  | [], i, s, o, acc, h => by
    rw [verI_nil, verS_nil, List.length_map]
    by_cases h0 : 0 < o.length
    · rw [if_pos h0, if_pos h0, last_map (by omega)]; rfl
    · rw [if_neg h0, if_neg h0]
      split <;> rfl
  | x :: l, i, s, o, acc, h => by
    rw [verI_cons, verS_cons]
    obtain ⟨k1, k2⟩ := step_rel (at_ := i) (op := x.1) (a := x.2.1) (ks := ks) (n := n) h
    rw [k1]
    by_cases h0 : (stepS i x.1 x.2.1 ks n s o).1 = 0
    · rw [if_neg (fun e => e h0), if_neg (fun e => e h0)]
      obtain ⟨e1, e2, e3⟩ := k2 h0
      rw [e1, e2]
      exact ver_rel e3
    · rw [if_pos h0, if_pos h0]
theorem Open.nil : Open e0 [] := ⟨by simp, by decide, by simp, by simp⟩
/-- What the verifiers say of a code. -/
def verM (ks : List Int) (n : Int) (l : List Ins) : Int × Int := verS ks n l 0 e0 []

def codeFit (l : List Ins) : Prop := l.length ≤ 40 ∧ ∀ x ∈ l, 0 ≤ x.2.1 ∨ x.1 ≠ 19
theorem codeFit.at {l : List Ins} (h : codeFit l) {i : Nat} (hi : i < l.length) : 0 ≤ (l.getD i ((0 : Int), ((0 : Int), ()))).2.1 ∨ (l.getD i ((0 : Int), ((0 : Int), ()))).1 ≠ 19 := by
  rw [List.getD_eq_getElem?_getD, List.getElem?_eq_getElem hi]
  exact h.2 _ (List.getElem_mem hi)
theorem codeOK_fit {l : List Ins} (h : codeOK l = true) : codeFit l := by
  simp only [codeOK, Bool.and_eq_true, decide_eq_true_eq, List.all_eq_true] at h
  refine ⟨h.1, fun x hx => ?_⟩
  have := h.2 x hx
  simp only [insOK, instrOK, Bool.and_eq_true] at this
  have hw := within_iff.1 this.2
  by_cases e : x.1 = 19
  · left
    rw [e] at hw
    exact hw.1
  · exact .inr e
theorem kindsOK_in {ks : List Int} (h : kindsOK ks = true) : kindsIn ks := by
  simp only [kindsOK, Bool.and_eq_true, decide_eq_true_eq, List.all_eq_true] at h
  refine ⟨h.1, fun i hi => ?_⟩
  rw [List.getD_eq_getElem?_getD, List.getElem?_eq_getElem hi]
  exact h.2 _ (List.getElem_mem hi)

@[reducible] def verE (at_ c : Int) : Ent := .tup [(false, [.row 0]), (false, [cI at_]), (false, [cI c])]
theorem c_impl_verify (l : List Ins) (ks : List Int) (n : Int) (hl : codeFit l) (hk : kindsIn ks) :
    TT n_impl_verify [.one (.sl tIns l), .one (.sl (.int .i64) ks), eI n] [] (verE (verI ks n l 0 e0 [] []).2.1 (verI ks n l 0 e0 [] []).2.2) [.row t_string .str (verI ks n l 0 e0 [] []).1] := by
  have hl1 := hl.1
  refine r_impl_verify l ks n ⟨fun ks' n' s acc o => ks' = ks ∧ n' = n ∧ ∃ p, Open s p ∧ o = p.map toI ∧ acc.length ≤ 40 ∧ verI ks n l 0 e0 [] [] = verI ks n [] l.length s o acc,
    ⟨fun m i ks' n' s acc o => ks' = ks ∧ n' = n ∧ 0 ≤ i ∧ i ≤ l.length ∧ m = (l.length - i).toNat ∧ ∃ p, Open s p ∧ o = p.map toI ∧ acc.length = i.toNat ∧ verI ks n l 0 e0 [] [] = verI ks n (l.drop i.toNat) i s o acc,
      ⟨_, rfl, rfl, rfl, by omega, by omega, rfl, [], Open.nil, rfl, rfl, rfl⟩, ?_⟩, ?_⟩
  · rintro m i ks' n' s acc o ⟨rfl, rfl, h0, h1, rfl, p, hp, rfl, ha, hv⟩
    refine ifP (fun hlt => ⟨⟨h0, hlt⟩, by simp; omega, _, _, _, _, _, c_impl_step i _ _ ks' n' s (p.map toI) (by simpa using hp.len) hp.size (by rw [base_map]; exact hp.floor.1) hk (hl.at (by omega)), ?_⟩) (fun hge => ?_)
    · rw [drop_getD (by omega) ((0 : Int), ((0 : Int), ()))] at hv
      obtain ⟨k1, k2⟩ := step_rel (at_ := i) (op := (l.getD i.toNat ((0 : Int), ((0 : Int), ()))).1) (a := (l.getD i.toNat ((0 : Int), ((0 : Int), ()))).2.1) (ks := ks') (n := n') hp
      rw [verI_cons] at hv
      refine ifN (fun hne => ?_) (fun he => ?_)
      · rw [if_pos hne] at hv
        rw [hv]; exact ⟨rfl, rfl⟩
      · rw [if_neg (fun e => e he)] at hv
        obtain ⟨e1, e2, e3⟩ := k2 (k1 ▸ he)
        rw [w64 (by omega)]
        exact ⟨_, by omega, rfl, rfl, rfl, by omega, by omega, rfl, _, e1 ▸ e3, e2, by simp; omega, by rw [toNat_succ h0]; exact hv⟩
    · have hi : i = l.length := by omega
      rw [List.drop_eq_nil_of_le (by omega)] at hv
      subst hi
      exact ⟨rfl, rfl, rfl, p, hp, rfl, by omega, hv⟩
  · rintro ks' n' s acc o ⟨rfl, rfl, p, hp, rfl, ha, hv⟩
    rw [hv, verI_nil]
    have hpl := hp.len
    refine ifP (fun h => ?_) (fun h => ?_)
    · rw [last_nat (by simpa using hpl) (by omega), last_int (by simpa using hpl), if_pos (by omega)]
      exact ⟨by omega, rfl, rfl⟩
    · rw [if_neg (by omega), toList_beq]
      refine ifB_cases (fun h2 => ?_) (fun h2 => ⟨by simp; omega, ?_⟩)
      · rw [if_pos (by simpa using h2)]; exact ⟨rfl, rfl⟩
      · rw [if_neg (by simpa using h2)]; exact ⟨rfl, rfl⟩
theorem c_spec_verify (l : List Ins) (ks : List Int) (n : Int) (hl : codeFit l) (hk : kindsIn ks) :
    TT n_spec_l04Verify [.one (.sl tIns l), .one (.sl (.int .i64) ks), eI n] [] (.tup [(false, [cI (verM ks n l).1]), (false, [cI (verM ks n l).2])]) [] := by
  have hl1 := hl.1
  refine r_spec_l04Verify l ks n ⟨fun s o => Open s o ∧ verM ks n l = verS ks n [] l.length s o,
    ⟨fun m i s o => 0 ≤ i ∧ i ≤ l.length ∧ m = (l.length - i).toNat ∧ Open s o ∧ verM ks n l = verS ks n (l.drop i.toNat) i s o,
      ⟨_, rfl, by omega, by omega, rfl, Open.nil, rfl⟩, ?_⟩, ?_⟩
  · rintro m i s o ⟨h0, h1, rfl, hp, hv⟩
    refine ifP (fun hlt => ⟨⟨h0, hlt⟩, _, _, _, c_spec_step i _ _ ks n s o hp.len hp.size hp.floor hk (hl.at (by omega)), ?_⟩) (fun hge => ?_)
    · rw [drop_getD (by omega) ((0 : Int), ((0 : Int), ()))] at hv
      obtain ⟨k1, k2⟩ := step_rel (at_ := i) (op := (l.getD i.toNat ((0 : Int), ((0 : Int), ()))).1) (a := (l.getD i.toNat ((0 : Int), ((0 : Int), ()))).2.1) (ks := ks) (n := n) hp
      rw [verS_cons] at hv
      refine ifN (fun hne => ?_) (fun he => ?_)
      · rw [if_pos hne] at hv
        rw [hv]; exact ⟨rfl, rfl⟩
      · rw [if_neg (fun e => e he)] at hv
        obtain ⟨e1, e2, e3⟩ := k2 he
        rw [w64 (by omega)]
        exact ⟨_, by omega, rfl, by omega, by omega, rfl, e3, by rw [toNat_succ h0]; exact hv⟩
    · have hi : i = l.length := by omega
      rw [List.drop_eq_nil_of_le (by omega)] at hv
      subst hi
      exact ⟨rfl, hp, hv⟩
  · rintro s o ⟨hp, hv⟩
    rw [hv, verS_nil]
    have hpl := hp.len
    refine ifP (fun h => ?_) (fun h => ?_)
    · rw [last_nat hpl (by omega), last_int hpl, if_pos (by omega)]
      exact ⟨by omega, rfl, rfl⟩
    · rw [if_neg (by omega), toList_beq]
      refine ifB_cases (fun h2 => ?_) (fun h2 => ?_)
      · rw [if_pos (by simpa using h2)]; exact ⟨rfl, rfl⟩
      · rw [if_neg (by simpa using h2)]; exact ⟨rfl, rfl⟩
theorem verI_verM (ks : List Int) (n : Int) (l : List Ins) : (verI ks n l 0 e0 [] []).2 = verM ks n l := ver_rel (o := []) Open.nil

/-! ### all routines -/
def verAllM (ks : List Int) : List Rou → Int → Int × Int × Int
  | [], _ => (0, 0, 0)
  | r :: l, i => if (verM ks i r.1).2 ≠ 0 then (i, (verM ks i r.1).1, (verM ks i r.1).2) else verAllM ks l (i + 1)
theorem verAllM_cons {ks : List Int} {r : Rou} {l : List Rou} {i : Int} : verAllM ks (r :: l) i = if (verM ks i r.1).2 ≠ 0 then (i, (verM ks i r.1).1, (verM ks i r.1).2) else verAllM ks l (i + 1) := rfl
@[reducible] def tupIII (a b c : Int) : Ent := .tup [(false, [cI a]), (false, [cI b]), (false, [cI c])]
def rousFit (rs : List Rou) : Prop := rs.length ≤ 6 ∧ ∀ r ∈ rs, codeFit r.1
theorem rousOK_fit {rs : List Rou} (h : rousOK rs = true) : rousFit rs := by
  simp only [rousOK, Bool.and_eq_true, decide_eq_true_eq, List.all_eq_true] at h
  exact ⟨h.1, fun r hr => codeOK_fit (h.2 r hr)⟩
theorem rousFit.at {rs : List Rou} (h : rousFit rs) {i : Nat} (hi : i < rs.length) : codeFit (rs.getD i (([] : List Ins), ())).1 := by
  rw [List.getD_eq_getElem?_getD, List.getElem?_eq_getElem hi]
  exact h.2 _ (List.getElem_mem hi)
/-! ### programs -/
abbrev Tsk := Int × Int × Int × Int × Int × Int × Unit
@[reducible] def tTsk : Ty := .pair (.int .i64) (.pair (.int .i64) (.pair (.int .i64) (.pair (.int .i64) (.pair (.int .i64) (.pair (.int .i64) .unit)))))
@[reducible] def dTsk : Tsk := ((0 : Int), ((0 : Int), ((0 : Int), ((0 : Int), ((0 : Int), ((0 : Int), ()))))))
def tskOK (t : Tsk) : Bool := taskOK t.1 t.2.1 t.2.2.1 t.2.2.2.1 t.2.2.2.2.1 t.2.2.2.2.2.1
@[reducible] def prgE (ks : List Int) (rs : List Rou) (ts : List Tsk) (sf : List Bool) : Ent := .agg [.sl (.int .i64) ks, .sl tRou rs, .sl tTsk ts, .sl .bool sf]
def chkT (n : Int) : List Tsk → Int → Int × Int
  | [], _ => (0, 0)
  | t :: l, i => if tskOK t = false then (i, 10) else if n ≤ t.2.2.2.2.2.1 then (i, 15) else chkT n l (i + 1)
theorem chkT_cons {n : Int} {t : Tsk} {l : List Tsk} {i : Int} : chkT n (t :: l) i = if tskOK t = false then (i, 10) else if n ≤ t.2.2.2.2.2.1 then (i, 15) else chkT n l (i + 1) := rfl
def checkM (ks : List Int) (rs : List Rou) (ts : List Tsk) (sf : List Bool) : Int × Int :=
  if kindsOK ks = false then (0, 1) else if rousOK rs = false then (0, 1) else if sf.length ≠ 8 then (0, 1)
  else if (verAllM ks rs 0).2.2 ≠ 0 then ((verAllM ks rs 0).1, (verAllM ks rs 0).2.2)
  else if ts.length = 0 then (0, 5) else if 5 < ts.length then (0, 6) else chkT rs.length ts 0
def prgOK (ks : List Int) (rs : List Rou) (ts : List Tsk) (sf : List Bool) : Bool := (checkM ks rs ts sf).2 == 0
@[reducible] def tupII (a b : Int) : Ent := .tup [(false, [cI a]), (false, [cI b])]
structure prgSmall (ks : List Int) (rs : List Rou) (ts : List Tsk) (sf : List Bool) : Prop where
  ks : ks.length ≤ 1048576
  rs : small rs
  ts : ts.length ≤ 1048576
  sf : sf.length ≤ 1048576
end Go.Ry
