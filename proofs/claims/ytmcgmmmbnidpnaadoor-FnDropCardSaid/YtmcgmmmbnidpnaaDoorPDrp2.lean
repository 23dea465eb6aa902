/- Releases that are dropped: the law. No condition. -/
import Derived.Test.YtmcgmmmbnidpnaaDoorPDrp1
import Derived.Test.YtmcgmmmbnidpnaaDoorPSrc2
import Derived.Test.YtmcgmmmbnidpnaaDoorPAt1
set_option linter.unusedVariables false
set_option linter.unusedSimpArgs false
namespace Go.Ry
open Go.Proofs

/-! ### a source without releases -/
@[reducible] def srcN (la ar dn th lo dr : Int) : Ent := .agg [cI la, cI ar, cI dn, cI th, cI lo, cI dr, .nils]
theorem c_impl_SourceOKn (la ar dn th lo dr : Int) (k p d pin qu r : Int) :
    TT n_impl_SourceOK [srcN la ar dn th lo dr, tsk k p d pin qu r] [] (eB (sourceOK la ar dn th lo dr [] k p d pin qu r)) [] := by
  refine r_impl_SourceOK_1 la ar dn th lo dr k p d pin qu r ⟨_, c_impl_TaskOK _ _ _ _ _ _, ifB_cases (fun h => ?_) (fun h => ?_)⟩
  · have h : taskOK k p d pin qu r = false := by simpa using h
    exact ⟨by simp [sourceOK, h], rfl⟩
  have ht : taskOK k p d pin qu r = true := by simpa using h
  refine ⟨_, c_impl_within _ _ _, ifB_cases (fun h => ?_) (fun h => ?_)⟩
  · have h : within la (-1) 2147483647 = false := by simpa using h
    exact ⟨by simp [sourceOK, h], rfl⟩
  have hl : within la (-1) 2147483647 = true := by simpa using h
  refine ⟨_, c_impl_all_intt _ (by simp), ifB_cases (fun h => ?_) (fun h => ?_)⟩
  · have h : [ar, dn, th, lo, dr].all isTm = false := by rw [← Bool.not_eq_true']; exact h
    exact ⟨by simp only [sourceOK, h]; simp, rfl⟩
  have hc : [ar, dn, th, lo, dr].all isTm = true := by rw [← Bool.not_eq_false']; exact h
  have hq := taskOK_q ht
  refine ifP_f (by omega) ⟨fun _ => True, ⟨0, rfl, rfl, trivial⟩, fun _ _ => ifP_f (by omega) ⟨?_, rfl⟩⟩
  have e : sourceOK la ar dn th lo dr [] k p d pin qu r = true := by
    unfold sourceOK
    rw [ht, hl, hc, decide_eq_true (show (([] : List Int).length : Int) ≤ qu by simp only [List.length_nil]; omega)]
    rfl
  rw [e]
def balM (s : Sv) : Int := s.ar - s.dn - s.th - s.lo - s.dr - s.q.length
theorem bal_eq {ar dn th lo dr n : Int} (h1 : 0 ≤ ar ∧ ar ≤ 2147483647) (h2 : 0 ≤ dn ∧ dn ≤ 2147483647) (h3 : 0 ≤ th ∧ th ≤ 2147483647) (h4 : 0 ≤ lo ∧ lo ≤ 2147483647) (h5 : 0 ≤ dr ∧ dr ≤ 2147483647) (h6 : 0 ≤ n ∧ n ≤ 4) :
    wI (wI (wI (wI (wI (ar - dn) - th) - lo) - dr) - n) = ar - dn - th - lo - dr - n := by
  rw [w64 (x := ar - dn) (by omega), w64 (x := ar - dn - th) (by omega), w64 (x := ar - dn - th - lo) (by omega), w64 (x := ar - dn - th - lo - dr) (by omega), w64 (by omega)]
theorem c_impl_BalanceOf (s : Sv) (k p d pin qu r : Int) (h : s.ok k p d pin qu r = true) : TT n_impl_BalanceOf [.agg s.cs, tsk k p d pin qu r] [] (.tup [(false, [cI (balM s)]), (false, [cI 0])]) [] := by
  obtain ⟨h1, h2, h3, h4, h5, h6, h7, h8, h9⟩ := s.facts h
  have hq := taskOK_q h1
  refine r_impl_BalanceOf _ _ _ _ _ _ _ _ _ _ _ _ _ ⟨_, c_impl_SourceOK _ _ _ _ _ _ _ _ _ _ _ _ _, ifB_f (by rw [show sourceOK _ _ _ _ _ _ _ _ _ _ _ _ _ = true from h]; rfl) ?_⟩
  rw [bal_eq h3 h4 h5 h6 h7 (by omega)]
  exact ⟨rfl, rfl⟩
theorem c_impl_BalanceOfn (la ar dn th lo dr : Int) (k p d pin qu r : Int) (h : Sv.ok ⟨la, ar, dn, th, lo, dr, []⟩ k p d pin qu r = true) : TT n_impl_BalanceOf [srcN la ar dn th lo dr, tsk k p d pin qu r] [] (.tup [(false, [cI (balM ⟨la, ar, dn, th, lo, dr, []⟩)]), (false, [cI 0])]) [] := by
  obtain ⟨h1, h2, h3, h4, h5, h6, h7, h8, h9⟩ := Sv.facts h
  simp only at h3 h4 h5 h6 h7
  refine r_impl_BalanceOf_1 _ _ _ _ _ _ _ _ _ _ _ _ ⟨_, c_impl_SourceOKn _ _ _ _ _ _ _ _ _ _ _ _, ifB_f (by rw [show sourceOK _ _ _ _ _ _ _ _ _ _ _ _ _ = true from h]; rfl) ?_⟩
  rw [bal_eq h3 h4 h5 h6 h7 (by omega)]
  exact ⟨rfl, rfl⟩
theorem c_spec_BalanceOf (s : Sv) (k p d pin qu r : Int) (h : s.ok k p d pin qu r = true) : TT n_spec_BalanceOf [.agg s.cs, tsk k p d pin qu r] [] (.tup [(false, [cI (balM s)]), (false, [cI 0])]) [] := by
  obtain ⟨h1, h2, h3, h4, h5, h6, h7, h8, h9⟩ := s.facts h
  have hq := taskOK_q h1
  refine r_spec_BalanceOf _ _ _ _ _ _ _ _ _ _ _ _ _ ⟨_, c_spec_SourceOK _ _ _ _ _ _ _ _ _ _ _ _ _, ifB_f (by rw [show sourceOK _ _ _ _ _ _ _ _ _ _ _ _ _ = true from h]; rfl) ⟨balM s, r_spec_l10Balance _ _ _ _ _ _ _ ?_, rfl, rfl⟩⟩
  unfold v_spec_l10Balance
  rw [bal_eq h3 h4 h5 h6 h7 (by omega)]
  exact ⟨rfl, rfl⟩
theorem c_Clone (l : List Int) (hl : l.length ≤ 1048576) : TT n_slices_Clone_int_int [.one (.sl tyInt l)] [] (.one (.row 0)) [.row t_int tyInt l] := by
  refine r_slices_Clone_int_int l fun b hb => ifB_cases (fun h => ⟨rfl, ?_⟩) (fun h => ⟨?_, rfl, ?_⟩)
  · have := List.eq_nil_of_length_eq_zero (hb h)
    rw [this]
  · simp only [List.length_nil]; omega
  · rw [List.nil_append]
theorem c_impl_copySource (s : Sv) (hl : s.q.length ≤ 1048576) : TT n_impl_copySource [.agg s.cs] [] (.agg [cI s.la, cI s.ar, cI s.dn, cI s.th, cI s.lo, cI s.dr, .row 0]) [.row t_int tyInt s.q] :=
  r_impl_copySource _ _ _ _ _ _ _ ⟨_, c_Clone s.q hl, rfl, rfl⟩
theorem c_impl_Source_drop (b : Bool) (s : Sv) (hd : s.dr = 0) (hl : s.q.length ≤ 4) :
    TT n_impl_Source_drop [.one (.ptrB 0 0), eB b] [.box [cI s.la, cI s.ar, cI s.dn, cI s.th, cI s.lo, cI s.dr, .row 1], .row t_int tyInt s.q] (.tup []) [.box [cI s.la, cI s.ar, cI s.dn, cI s.th, cI s.lo, cI (s.q.length + bitI b), .nils], .row t_int tyInt s.q] := by
  have hb : 0 ≤ bitI b ∧ bitI b ≤ 1 := by cases b <;> decide
  refine r_impl_Source_drop b _ _ _ _ _ _ _ ⟨_, c_impl_bit b, s.la, s.ar, s.dn, s.th, s.lo, s.q.length + bitI b, s.q, ?_, rfl, rfl⟩
  refine r_impl_count _ _ _ _ _ _ _ _ ?_
  unfold v_impl_count
  rw [hd, w64 (x := (s.q.length : Int) + bitI b) (by omega), w64 (x := 0 + ((s.q.length : Int) + bitI b)) (by omega), if_neg (by omega), Int.zero_add]
  exact ⟨rfl, rfl⟩
theorem c_impl_DropEvents (s : Sv) (k p d pin qu r : Int) (b : Bool) (h : s.ok k p d pin qu r = true) (hd : s.dr = 0) :
    TT n_impl_DropEvents [.agg s.cs, tsk k p d pin qu r, eB b] [] (.tup [(true, [cI s.la, cI s.ar, cI s.dn, cI s.th, cI s.lo, cI (s.q.length + bitI b), .nils]), (false, [cI 0])]) [] := by
  obtain ⟨h1, h2, h3, h4, h5, h6, h7, h8, h9⟩ := s.facts h
  have hq := taskOK_q h1
  exact r_impl_DropEvents _ _ _ _ _ _ _ _ _ _ _ _ _ b ⟨_, c_impl_SourceOK _ _ _ _ _ _ _ _ _ _ _ _ _, ifB_f (by rw [show sourceOK _ _ _ _ _ _ _ _ _ _ _ _ _ = true from h]; rfl)
    ⟨_, _, _, _, _, _, _, c_impl_copySource s (by omega), _, _, _, _, _, _, _, c_impl_Source_drop b s hd (by omega), rfl, rfl⟩⟩
theorem c_spec_l10Own (la ar dn th lo dr : Int) (q : List Int) (hl : q.length ≤ 1048576) : TT n_spec_l10Own [srcE la ar dn th lo dr q] [] (.agg [cI la, cI ar, cI dn, cI th, cI lo, cI dr, .row 0]) [.row t_int tyInt q] :=
  r_spec_l10Own _ _ _ _ _ _ _ ⟨by simp only [List.length_nil]; omega, rfl, by rw [List.nil_append]⟩
theorem c_spec_DropEvents (s : Sv) (k p d pin qu r : Int) (b : Bool) (h : s.ok k p d pin qu r = true) (hd : s.dr = 0) :
    TT n_spec_DropEvents [.agg s.cs, tsk k p d pin qu r, eB b] [] (.tup [(true, [cI s.la, cI s.ar, cI s.dn, cI s.th, cI s.lo, cI (s.q.length + bitI b), .row 0]), (false, [cI 0])]) [.row t_int tyInt []] := by
  obtain ⟨h1, h2, h3, h4, h5, h6, h7, h8, h9⟩ := s.facts h
  have hq := taskOK_q h1
  have hb : 0 ≤ bitI b ∧ bitI b ≤ 1 := by cases b <;> decide
  have hdrop : TT n_spec_l10Drop [.agg s.cs, eB b] [] (.agg [cI s.la, cI s.ar, cI s.dn, cI s.th, cI s.lo, cI (s.q.length + bitI b), .row 0]) [.row t_int tyInt []] := by
    refine r_spec_l10Drop _ _ _ _ _ _ _ b ⟨_, c_spec_l06Bit b, ?_⟩
    rw [hd, w64 (x := 0 + (s.q.length : Int)) (by omega), w64 (x := 0 + (s.q.length : Int) + bitI b) (by omega), if_neg (by omega), Int.zero_add]
    exact ⟨rfl, rfl⟩
  exact r_spec_DropEvents _ _ _ _ _ _ _ _ _ _ _ _ _ b ⟨_, c_spec_SourceOK _ _ _ _ _ _ _ _ _ _ _ _ _, ifB_f (by rw [show sourceOK _ _ _ _ _ _ _ _ _ _ _ _ _ = true from h]; rfl)
    ⟨_, _, _, _, _, _, _, hdrop, _, _, _, _, _, _, _, c_spec_l10Own _ _ _ _ _ _ [] (by simp), rfl, rfl⟩⟩
theorem c_impl_SourceTextn (la ar dn th lo dr : Int) (k p d pin qu r : Int) (h : Sv.ok ⟨la, ar, dn, th, lo, dr, []⟩ k p d pin qu r = true) :
    TT n_impl_SourceText [srcN la ar dn th lo dr, tsk k p d pin qu r] [] (.tup [(false, [.str (sourceB ar dn th lo dr 0)]), (false, [cI 0])]) [] := by
  obtain ⟨h1, h2, h3, h4, h5, h6, h7, h8, h9⟩ := Sv.facts h
  simp only at h3 h4 h5 h6 h7
  have s1 := itoaB_size ar; have s2 := itoaB_size dn; have s3 := itoaB_size th; have s4 := itoaB_size lo; have s5 := itoaB_size dr; have s6 := itoaB_size 0
  have ht : TT n_impl_sourceText [srcN la ar dn th lo dr] [] (eS (sourceB ar dn th lo dr 0)) [] := by
    refine r_impl_sourceText_1 la ar dn th lo dr ⟨_, c_impl_decimal _ (by unfold i64; omega), ?_, ?_, _, c_impl_decimal _ (by unfold i64; omega), ?_, ?_, _, c_impl_decimal _ (by unfold i64; omega), ?_, ?_, _, c_impl_decimal _ (by unfold i64; omega), ?_, ?_, _, c_impl_decimal _ (by unfold i64; omega), ?_, ?_, _, c_impl_decimal _ (by unfold i64; omega), ?_, rfl, rfl⟩
    all_goals (simp only [size_append, size_lit, List.length_cons, List.length_nil]; omega)
  exact r_impl_SourceText_1 _ _ _ _ _ _ _ _ _ _ _ _ ⟨_, c_impl_SourceOKn _ _ _ _ _ _ _ _ _ _ _ _, ifB_f (by rw [show sourceOK _ _ _ _ _ _ _ _ _ _ _ _ _ = true from h]; rfl) ⟨_, ht, rfl, rfl⟩⟩
theorem c_spec_SourceTexte (la ar dn th lo dr : Int) (k p d pin qu r : Int) (h : Sv.ok ⟨la, ar, dn, th, lo, dr, []⟩ k p d pin qu r = true) :
    TT n_spec_SourceText [srcE la ar dn th lo dr [], tsk k p d pin qu r] [] (.tup [(false, [.str (sourceB ar dn th lo dr 0)]), (false, [cI 0])]) [] := by
  have := c_spec_SourceText la ar dn th lo dr [] k p d pin qu r
  have e : sourceTextM la ar dn th lo dr [] k p d pin qu r = (sourceB ar dn th lo dr 0, 0) := if_pos h
  rw [e] at this
  exact this
theorem c_laws_FnDrop (l1 : List Int) (hw1 : Ty.wf (.slice (.int .u8)) l1) (l2 : List Int) (hw2 : Ty.wf (.slice (.int .u8)) l2) : TT n_laws_FnDrop [.one (.sl u8s l1), .one (.sl u8s l2)] [] (eB true) [] := by
  refine r_laws_FnDrop l1 l2 (ifP (fun _ => ⟨rfl, rfl⟩) (fun g1 => ifP (fun _ => ⟨rfl, rfl⟩) (fun g2 => ?_)))
  obtain ⟨s, k, p, d, pin, qu, r, now, ok, dr0, t1⟩ := c_SourceDrawn l1 (by omega) (u8_of hw1)
  obtain ⟨n, hn, t2⟩ := c_at' l2 0 2 (by omega) (u8_of hw2) (by omega) (by omega)
  obtain ⟨h1, h2, h3, h4, h5, h6, h7, h8, h9⟩ := s.facts ok
  have hq := taskOK_q h1
  have hb : ∀ b, 0 ≤ bitI b ∧ bitI b ≤ 1 := fun b => by cases b <;> decide
  have ok2 : Sv.ok ⟨s.la, s.ar, s.dn, s.th, s.lo, s.q.length + bitI (n == 1), []⟩ k p d pin qu r = true := by
    have := hb (n == 1)
    exact Sv.made ⟨h1, h2, h3, h4, h5, h6, ⟨by show 0 ≤ (s.q.length : Int) + bitI (n == 1); omega, by show (s.q.length : Int) + bitI (n == 1) ≤ 2147483647; omega⟩, by simp only [List.length_nil]; omega, fun j hj => absurd hj (Nat.not_lt_zero _)⟩
  refine ⟨_, _, _, _, _, _, _, _, _, _, _, _, _, _, t1, _, t2, _, _, c_impl_BalanceOf s k p d pin qu r ok, _, _, c_spec_BalanceOf s k p d pin qu r ok, _, _, _, _, _, _, _, c_impl_DropEvents s k p d pin qu r (n == 1) ok dr0,
    _, _, c_impl_BalanceOfn _ _ _ _ _ _ k p d pin qu r ok2, _, _, c_impl_SourceTextn _ _ _ _ _ _ k p d pin qu r ok2, _, _, _, _, _, _, _, _, c_spec_DropEvents s k p d pin qu r (n == 1) ok dr0, _, _, c_spec_SourceTexte _ _ _ _ _ _ k p d pin qu r ok2,
    fun n44 n45 n46 n47 n48 n49 s50 n51 s52 n53 _ _ _ _ _ n59 l60 _ _ _ _ _ n66 => n45 = 0 ∧ n44 = n46 ∧ n47 = 0 ∧ n66 = n59 + l60.length + n53 ∧ n49 = 0 ∧ n48 = n44 - n53 ∧ n51 = 0 ∧ s50 = s52 ∧ (-100000000000 ≤ n44 ∧ n44 ≤ 100000000000) ∧ n59 = 0 ∧ l60.length ≤ 4 ∧ (0 ≤ n53 ∧ n53 ≤ 1), ?_, ?_⟩
  · have hbal : -100000000000 ≤ balM s ∧ balM s ≤ 100000000000 := by unfold balM; omega
    have key : ∀ b : Bool, balM ⟨s.la, s.ar, s.dn, s.th, s.lo, s.q.length + bitI b, []⟩ = balM s - bitI b := by
      intro b
      simp only [balM, List.length_nil]
      omega
    refine ifE (fun e => ?_) (fun e => ?_)
    · have e1 : (n == 1) = true := by simp [e]
      rw [e1]
      exact ⟨rfl, rfl, rfl, by rw [dr0]; show (s.q.length : Int) + 1 = _; omega, rfl, key true, rfl, rfl, hbal, dr0, by omega, by omega⟩
    · have e1 : (n == 1) = false := by simpa using e
      rw [e1]
      exact ⟨rfl, rfl, rfl, by rw [dr0]; show (s.q.length : Int) + 0 = _; omega, rfl, key false, rfl, rfl, hbal, dr0, by omega, by omega⟩
  · rintro n44 n45 n46 n47 n48 n49 s50 n51 s52 n53 _ _ _ _ _ n59 l60 _ _ _ _ _ n66 ⟨rfl, rfl, rfl, rfl, rfl, rfl, rfl, rfl, b1, rfl, b2, b3⟩
    refine ifE_t rfl (ifE_t rfl (ifE_t rfl (ifE_t rfl (ifE_t ?_ (ifE_t rfl (ifE_t ?_ (ifE_t rfl ⟨by simp, rfl⟩)))))))
    · rw [w64 (x := 0 + (l60.length : Int)) (by omega), w64 (by omega)]
    · rw [w64 (by omega)]
end Go.Ry
