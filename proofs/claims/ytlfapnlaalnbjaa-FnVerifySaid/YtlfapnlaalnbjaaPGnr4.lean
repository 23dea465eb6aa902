/- Code that is drawn: statements, whole codes, kinds. No condition. -/
import Derived.Test.YtlfapnlaalnbjaaPGnr3
set_option linter.unusedVariables false
set_option linter.unusedSimpArgs false
namespace Go.Ry
open Go.Proofs

/-- What a generator of statements does. -/
def GSt (ks : List Int) (n : Int) (dp m : Nat) (D d : Int) : Prop :=
  ∀ (l : List Int) (p q : Int), SrcOK l p q → p ≤ 1000000 - 100000 * d → ∃ (r : List Ins) (p' q' : Int), Made ks n e0 3 dp m r ∧ (p ≤ p' ∧ p' ≤ p + D) ∧ SrcOK l p' q' ∧ TT n_spec_l00Src_statement [.one (.ptrB 0 0), .one (.sl tyInt ks), eI n, eI d] [srcO l p q] (.one (.row 1)) [srcO l p' q', rwI r]
@[reducible] def defC : List Ins := [(3, (0, ())), (1, (1, ())), (9, (0, ())), (4, (0, ()))]
theorem def_made (ks : List Int) (n : Int) : Made ks n e0 3 0 4 defC := by
  have a : Made ks n bI 1 0 1 [(3, (0, ()))] := Made.one rfl (iok3 (by omega)) (by omega) (by omega) (by decide) (by omega)
  have b : Made ks n bI 1 0 1 [(1, (1, ()))] := Made.one rfl (iok1 (by decide)) (by omega) (by omega) (by decide) (by omega)
  have he : effect 9 0 ks = (bI ++ bI, bI) := by rw [bII_eq]; rfl
  exact ((a.app (h := 3) (d := 0) b (by omega) (by decide) (by omega) (by omega)).op he (by decide) (by omega) (by omega) (by decide) (by omega)).op (op := 4) (a := 0) rfl (iok4 (by omega)) (by omega) (by omega) (by decide) (by omega)
theorem def_cat : TT n_spec_l04Cat [.one (.sl (.slice tIns) [[(3, (0, ()))], [(1, (1, ()))], [(9, (0, ()))], [(4, (0, ()))]])] [] (.one (.row 0)) [rwI defC] := c_Cat _ _ rfl (by simp) (by simp)
theorem stm_go (ks : List Int) (n : Int) (hk : kindsOK ks = true) (hn : 0 ≤ n ∧ n ≤ 6) (d : Int) (hd : 0 ≤ d ∧ d ≤ 2) (dp m : Nat) (D : Int) (rec : 0 < d → GSt ks n dp m D (d - 1))
    (dp' m' : Nat) (D' : Int) (e0' : 10 ≤ m' ∧ 300 ≤ D') (e1 : 0 < d → dp + 1 ≤ dp' ∧ 2 * m + 8 ≤ m' ∧ 2 * D + 300 ≤ D' ∧ m ≤ 1000 ∧ 0 ≤ D ∧ D ≤ 20000) : GSt ks n dp' m' D' d := by
  intro l p q hs hp
  obtain ⟨v, p1, q1, v1, v2, v3, v4⟩ := c_next 9 l p q hs (by omega)
  have z0 : e0.size = 0 := rfl
  by_cases c1 : v ≤ 1
  · -- a number is stored
    obtain ⟨x, p2, q2, mx, dx, sx, tx⟩ := int2 ks n hk l p1 q1 v3 (by omega)
    obtain ⟨w, p3, q3, w1, w2, w3, w4⟩ := c_next 4 l p2 q2 sx (by omega)
    have mk : Made ks n e0 3 0 (9 + 1) (x ++ [(4, (w, ()))]) := mx.op rfl (iok4 (by omega)) (by omega) (by omega) (by decide) (by omega)
    have hcat := c_Cat [x, [(4, (w, ()))]] (x ++ [(4, (w, ()))]) (by simp) (by simp) (by
      intro z hz
      simp only [List.mem_cons, List.not_mem_nil, or_false] at hz
      rcases hz with rfl | rfl
      · exact ins_len mx (by omega)
      · simp)
    refine ⟨_, p3, q3, mk.mono (by omega) (by omega) (by omega), by omega, w3, r_spec_l00Src_statement ks n d l p q ⟨_, _, _, _, v4, fun v' b' l' p' q' => b' = true ∧ l = l' ∧ p1 = p' ∧ q1 = q',
      ifE (fun e => ⟨rfl, by simp [e], rfl, rfl, rfl⟩) (fun e => ⟨rfl, by simp; omega, rfl, rfl, rfl⟩), ?_⟩⟩
    rintro v' b' l' p' q' ⟨rfl, rfl, rfl, rfl⟩
    exact ifB_t rfl ⟨_, _, _, _, tx, _, _, _, _, w4, _, c_OpA 4 w, _, hcat, rfl, rfl⟩
  have J1 : ∀ J : Int → Bool → List Int → Int → Int → Prop, J v false l p1 q1 → ifB (v == 0) (eqC [.sl tyInt ks, cI n, cI d] ∧ J v (v == 0) l p1 q1) (eqC [.sl tyInt ks, cI n, cI d] ∧ J v (v == 1) l p1 q1) := fun J hj =>
    ifE (fun e => absurd e (by omega)) (fun _ => ⟨rfl, by rw [show (v == 1) = false by simp; omega]; exact hj⟩)
  have J1' := J1 (fun v' b' l' p' q' => v = v' ∧ b' = false ∧ l = l' ∧ p1 = p' ∧ q1 = q') ⟨rfl, rfl, rfl, rfl, rfl⟩
  by_cases c2 : v ≤ 3
  · -- a bit is put out
    obtain ⟨x, p2, q2, mx, dx, sx, tx⟩ := bool2 ks n hk l p1 q1 v3 (by omega)
    obtain ⟨u, p3, q3, u1, u2, u3, u4⟩ := c_next 3 l p2 q2 sx (by omega)
    obtain ⟨w, p4, q4, w1, w2, w3, w4⟩ := c_next 4 l p3 q3 u3 (by omega)
    have hu : u = 0 ∨ u = 1 ∨ u = 2 := by omega
    have hop : ([6, 6, 8] : List Int).getD (Int.toNat u) 0 = 6 ∨ ([6, 6, 8] : List Int).getD (Int.toNat u) 0 = 8 := by
      rcases hu with rfl | rfl | rfl
      · exact .inl rfl
      · exact .inl rfl
      · exact .inr rfl
    have hidx : 0 ≤ u ∧ u < (3 : Int) := by omega
    have tO := c_OpA (([6, 6, 8] : List Int).getD (Int.toNat u) 0) w
    have mk : Made ks n e0 3 0 (9 + 1) (x ++ [(([6, 6, 8] : List Int).getD (Int.toNat u) 0, (w, ()))]) := by
      rcases hop with e | e
      · rw [e]; exact mx.op rfl (iok6 (by omega)) (by omega) (by omega) (by decide) (by omega)
      · rw [e]; exact mx.op rfl (iok8 (by omega)) (by omega) (by omega) (by decide) (by omega)
    have hcat := c_Cat [x, [(([6, 6, 8] : List Int).getD (Int.toNat u) 0, (w, ()))]] (x ++ [(([6, 6, 8] : List Int).getD (Int.toNat u) 0, (w, ()))]) (by simp) (by simp) (by
      intro z hz
      simp only [List.mem_cons, List.not_mem_nil, or_false] at hz
      rcases hz with rfl | rfl
      · exact ins_len mx (by omega)
      · simp)
    refine ⟨_, p4, q4, mk.mono (by omega) (by omega) (by omega), by omega, w3, r_spec_l00Src_statement ks n d l p q ⟨_, _, _, _, v4, fun v' b' l' p' q' => v = v' ∧ b' = false ∧ l = l' ∧ p1 = p' ∧ q1 = q', J1', ?_⟩⟩
    rintro v' b' l' p' q' ⟨rfl, rfl, rfl, rfl, rfl⟩
    refine ifB_f rfl ⟨fun v' b' l' p' q' => b' = true ∧ l = l' ∧ p1 = p' ∧ q1 = q', ifE (fun e => ⟨rfl, by simp [e], rfl, rfl, rfl⟩) (fun e => ⟨rfl, by simp; omega, rfl, rfl, rfl⟩), ?_⟩
    rintro v' b' l' p' q' ⟨rfl, rfl, rfl, rfl⟩
    refine ifB_t rfl ?_
    repeat' (first
      | exact ⟨rfl, rfl⟩
      | exact hidx
      | refine ⟨_, _, _, _, tx, ?_⟩
      | refine ⟨_, _, _, _, u4, ?_⟩
      | refine ⟨_, _, _, _, w4, ?_⟩
      | refine ⟨_, tO, ?_⟩
      | refine ⟨_, hcat, ?_⟩
      | refine ⟨?_, ?_⟩
      | fail)
  have J2 : ∀ J : Int → Bool → List Int → Int → Int → Prop, J v false l p1 q1 → ifB (v == 2) (eqC [.sl tyInt ks, cI n, cI d] ∧ J v (v == 2) l p1 q1) (eqC [.sl tyInt ks, cI n, cI d] ∧ J v (v == 3) l p1 q1) := fun J hj =>
    ifE (fun e => absurd e (by omega)) (fun _ => ⟨rfl, by rw [show (v == 3) = false by simp; omega]; exact hj⟩)
  have J2' := J2 (fun v' b' l' p' q' => v = v' ∧ b' = false ∧ l = l' ∧ p1 = p' ∧ q1 = q') ⟨rfl, rfl, rfl, rfl, rfl⟩
  by_cases c4 : v = 4
  · have mk : Made ks n e0 1 0 1 [(25, (0, ()))] := Made.one rfl (by decide) (by omega) (by omega) (by decide) (by omega)
    refine ⟨_, p1, q1, mk.mono (by omega) (by omega) (by omega), by omega, v3, r_spec_l00Src_statement ks n d l p q ⟨_, _, _, _, v4, fun v' b' l' p' q' => v = v' ∧ b' = false ∧ l = l' ∧ p1 = p' ∧ q1 = q', J1', ?_⟩⟩
    rintro v' b' l' p' q' ⟨rfl, rfl, rfl, rfl, rfl⟩
    refine ifB_f rfl ⟨fun v' b' l' p' q' => v = v' ∧ b' = false ∧ l = l' ∧ p1 = p' ∧ q1 = q', J2', ?_⟩
    rintro v' b' l' p' q' ⟨rfl, rfl, rfl, rfl, rfl⟩
    exact ifB_f rfl (ifE_t c4 ⟨_, c_Op 25, rfl, rfl⟩)
  by_cases c5 : v = 5 ∧ 0 < n
  · obtain ⟨w, p2, q2, w1, w2, w3, w4⟩ := c_next n l p1 q1 v3 (by omega)
    have mk : Made ks n e0 1 0 1 [(26, (w, ()))] := Made.one rfl (iok26 (by omega)) (by omega) (by omega) (by decide) (by omega)
    refine ⟨_, p2, q2, mk.mono (by omega) (by omega) (by omega), by omega, w3, r_spec_l00Src_statement ks n d l p q ⟨_, _, _, _, v4, fun v' b' l' p' q' => v = v' ∧ b' = false ∧ l = l' ∧ p1 = p' ∧ q1 = q', J1', ?_⟩⟩
    rintro v' b' l' p' q' ⟨rfl, rfl, rfl, rfl, rfl⟩
    refine ifB_f rfl ⟨fun v' b' l' p' q' => v = v' ∧ b' = false ∧ l = l' ∧ p1 = p' ∧ q1 = q', J2', ?_⟩
    rintro v' b' l' p' q' ⟨rfl, rfl, rfl, rfl, rfl⟩
    exact ifB_f rfl (ifE_f c4 (ifE_t c5.1 (ifP_t (by omega) ⟨_, _, _, _, w4, _, c_OpA 26 w, rfl, rfl⟩)))
  by_cases c6 : v = 6 ∧ 0 < d
  · obtain ⟨k1, k2, k3, k4, k5, k6⟩ := e1 c6.2
    have hrec := rec c6.2
    obtain ⟨x, p2, q2, mx, dx, sx, tx⟩ := bool1 ks n hk l p1 q1 v3 (by omega)
    obtain ⟨y, p3, q3, my, dy, sy, ty⟩ := hrec l p2 q2 sx (by omega)
    have ty' : TT n_spec_l00Src_statement [.one (.ptrB 0 0), .one (.sl tyInt ks), eI n, eI (wI (d - 1))] [srcO l p2 q2] (.one (.row 1)) [srcO l p3 q3, rwI y] := by rw [w64 (x := d - 1) (by omega)]; exact ty
    have hc1 := c_Cat [x, [(21, (0, ()))], y] ((x ++ [(21, (0, ()))]) ++ y) (by simp) (by simp) (by
      intro z hz
      simp only [List.mem_cons, List.not_mem_nil, or_false] at hz
      rcases hz with rfl | rfl | rfl
      · exact ins_len mx (by omega)
      · simp
      · exact ins_len my (by omega))
    have hl1 : ((x ++ [((21 : Int), ((0 : Int), ()))]) ++ y).length ≤ 2000 := by
      have := mx.len; have := my.len
      simp only [List.length_append, List.length_singleton]; omega
    obtain ⟨b, p4, q4, b1, b2, b3⟩ := c_chance 2 (by omega) l p3 q3 sy (by omega)
    cases b
    · have mk := Made.branch (mx.mono (h' := 3) (d' := dp) (m' := 5) (by omega) (by omega) (by omega)) my
      have hc2 := c_Cat [(x ++ [(21, (0, ()))]) ++ y, [(23, (0, ()))]] (x ++ [(21, (0, ()))] ++ y ++ [(23, (0, ()))]) (by simp) (by simp) (by
        intro z hz
        simp only [List.mem_cons, List.not_mem_nil, or_false] at hz
        rcases hz with rfl | rfl
        · omega
        · simp)
      refine ⟨_, p4, q4, mk.mono (by omega) (by omega) (by omega), by omega, b2, r_spec_l00Src_statement ks n d l p q ⟨_, _, _, _, v4, fun v' b' l' p' q' => v = v' ∧ b' = false ∧ l = l' ∧ p1 = p' ∧ q1 = q', J1', ?_⟩⟩
      rintro v' b' l' p' q' ⟨rfl, rfl, rfl, rfl, rfl⟩
      refine ifB_f rfl ⟨fun v' b' l' p' q' => v = v' ∧ b' = false ∧ l = l' ∧ p1 = p' ∧ q1 = q', J2', ?_⟩
      rintro v' b' l' p' q' ⟨rfl, rfl, rfl, rfl, rfl⟩
      exact ifB_f rfl (ifE_f c4 (ifE_f (by omega) (ifE_t c6.1 (ifP_t c6.2 ⟨_, _, _, _, tx, _, c_Op 21, _, _, _, _, ty', _, hc1, _, _, _, _, b3, ifB_f rfl ⟨_, c_Op 23, _, hc2, rfl, rfl⟩⟩))))
    · obtain ⟨z, p5, q5, mz, dz, sz, tz⟩ := hrec l p4 q4 b2 (by omega)
      have tz' : TT n_spec_l00Src_statement [.one (.ptrB 0 0), .one (.sl tyInt ks), eI n, eI (wI (d - 1))] [srcO l p4 q4] (.one (.row 1)) [srcO l p5 q5, rwI z] := by rw [w64 (x := d - 1) (by omega)]; exact tz
      have mk := Made.branch2 (mx.mono (h' := 3) (d' := dp) (m' := 5) (by omega) (by omega) (by omega)) my mz
      have hc2 := c_Cat [(x ++ [(21, (0, ()))]) ++ y, [(22, (0, ()))], z] (x ++ [(21, (0, ()))] ++ y ++ [(22, (0, ()))] ++ z) (by simp) (by simp) (by
        intro u hu
        simp only [List.mem_cons, List.not_mem_nil, or_false] at hu
        rcases hu with rfl | rfl | rfl
        · omega
        · simp
        · exact ins_len mz (by omega))
      have hl2 : (x ++ [((21 : Int), ((0 : Int), ()))] ++ y ++ [((22 : Int), ((0 : Int), ()))] ++ z).length ≤ 4000 := by
        have := mx.len; have := my.len; have := mz.len
        simp only [List.length_append, List.length_singleton]; omega
      have hc3 := c_Cat [x ++ [(21, (0, ()))] ++ y ++ [(22, (0, ()))] ++ z, [(23, (0, ()))]] (x ++ [(21, (0, ()))] ++ y ++ [(22, (0, ()))] ++ z ++ [(23, (0, ()))]) (by simp) (by simp) (by
        intro u hu
        simp only [List.mem_cons, List.not_mem_nil, or_false] at hu
        rcases hu with rfl | rfl
        · omega
        · simp)
      refine ⟨_, p5, q5, mk.mono (by omega) (by omega) (by omega), by omega, sz, r_spec_l00Src_statement ks n d l p q ⟨_, _, _, _, v4, fun v' b' l' p' q' => v = v' ∧ b' = false ∧ l = l' ∧ p1 = p' ∧ q1 = q', J1', ?_⟩⟩
      rintro v' b' l' p' q' ⟨rfl, rfl, rfl, rfl, rfl⟩
      refine ifB_f rfl ⟨fun v' b' l' p' q' => v = v' ∧ b' = false ∧ l = l' ∧ p1 = p' ∧ q1 = q', J2', ?_⟩
      rintro v' b' l' p' q' ⟨rfl, rfl, rfl, rfl, rfl⟩
      exact ifB_f rfl (ifE_f c4 (ifE_f (by omega) (ifE_t c6.1 (ifP_t c6.2 ⟨_, _, _, _, tx, _, c_Op 21, _, _, _, _, ty', _, hc1, _, _, _, _, b3, ifB_t rfl ⟨_, c_Op 22, _, _, _, _, tz', _, hc2, _, c_Op 23, _, hc3, rfl, rfl⟩⟩))))
  by_cases c7 : v = 7 ∧ 0 < d
  · obtain ⟨k1, k2, k3, k4, k5, k6⟩ := e1 c7.2
    have hrec := rec c7.2
    obtain ⟨w, p2, q2, w1, w2, w3, w4⟩ := c_next 4 l p1 q1 v3 (by omega)
    obtain ⟨y, p3, q3, my, dy, sy, ty⟩ := hrec l p2 q2 w3 (by omega)
    have ty' : TT n_spec_l00Src_statement [.one (.ptrB 0 0), .one (.sl tyInt ks), eI n, eI (wI (d - 1))] [srcO l p2 q2] (.one (.row 1)) [srcO l p3 q3, rwI y] := by rw [w64 (x := d - 1) (by omega)]; exact ty
    have hop : TT n_spec_l04OpA [eI 24, eI (wI (1 + w))] [] (.one (.row 0)) [rwI [(24, (1 + w, ()))]] := by rw [w64 (x := 1 + w) (by omega)]; exact c_OpA 24 _
    have mk := Made.loop (a := 1 + w) (iok24 (by omega)) my
    have hcat := c_Cat [[(24, (1 + w, ()))], y, [(23, (0, ()))]] ([(24, (1 + w, ()))] ++ y ++ [(23, (0, ()))]) (by simp) (by simp) (by
      intro u hu
      simp only [List.mem_cons, List.not_mem_nil, or_false] at hu
      rcases hu with rfl | rfl | rfl
      · simp
      · exact ins_len my (by omega)
      · simp)
    refine ⟨_, p3, q3, mk.mono (by omega) (by omega) (by omega), by omega, sy, r_spec_l00Src_statement ks n d l p q ⟨_, _, _, _, v4, fun v' b' l' p' q' => v = v' ∧ b' = false ∧ l = l' ∧ p1 = p' ∧ q1 = q', J1', ?_⟩⟩
    rintro v' b' l' p' q' ⟨rfl, rfl, rfl, rfl, rfl⟩
    refine ifB_f rfl ⟨fun v' b' l' p' q' => v = v' ∧ b' = false ∧ l = l' ∧ p1 = p' ∧ q1 = q', J2', ?_⟩
    rintro v' b' l' p' q' ⟨rfl, rfl, rfl, rfl, rfl⟩
    exact ifB_f rfl (ifE_f c4 (ifE_f (by omega) (ifE_f (by omega) (ifE_t c7.1 (ifP_t c7.2 ⟨_, _, _, _, w4, _, hop, _, _, _, _, ty', _, c_Op 23, _, hcat, rfl, rfl⟩)))))
  · refine ⟨_, p1, q1, (def_made ks n).mono (by omega) (by omega) (by omega), by omega, v3, r_spec_l00Src_statement ks n d l p q ⟨_, _, _, _, v4, fun v' b' l' p' q' => v = v' ∧ b' = false ∧ l = l' ∧ p1 = p' ∧ q1 = q', J1', ?_⟩⟩
    rintro v' b' l' p' q' ⟨rfl, rfl, rfl, rfl, rfl⟩
    refine ifB_f rfl ⟨fun v' b' l' p' q' => v = v' ∧ b' = false ∧ l = l' ∧ p1 = p' ∧ q1 = q', J2', ?_⟩
    rintro v' b' l' p' q' ⟨rfl, rfl, rfl, rfl, rfl⟩
    have fin : ∃ r, TT n_spec_l04OpA [eI 3, eI 0] [] (.one (.row 0)) [rwI r] ∧ ∃ r1, TT n_spec_l04OpA [eI 1, eI 1] [] (.one (.row 0)) [rwI r1] ∧ ∃ r2, TT n_spec_l04Op [eI 9] [] (.one (.row 0)) [rwI r2] ∧ ∃ r3, TT n_spec_l04OpA [eI 4, eI 0] [] (.one (.row 0)) [rwI r3] ∧ ∃ r4, TT n_spec_l04Cat [.one (.sl (.slice tIns) [r, r1, r2, r3])] [] (.one (.row 0)) [rwI r4] ∧ r4 = defC :=
      ⟨_, c_OpA 3 0, _, c_OpA 1 1, _, c_Op 9, _, c_OpA 4 0, _, def_cat, rfl⟩
    obtain ⟨r, f1, r1, f2, r2, f3, r3, f4, r4, f5, rfl⟩ := fin
    exact ifB_f rfl (ifE_f c4 (ifE (fun e => ifP_f (by omega) ⟨_, f1, _, f2, _, f3, _, f4, _, f5, rfl, rfl⟩) (fun _ => ifE (fun e => ifP_f (by omega) ⟨_, f1, _, f2, _, f3, _, f4, _, f5, rfl, rfl⟩) (fun _ =>
      ifE (fun e => ifP_f (by omega) ⟨_, f1, _, f2, _, f3, _, f4, _, f5, rfl, rfl⟩) (fun _ => ⟨_, f1, _, f2, _, f3, _, f4, _, f5, rfl, rfl⟩)))))
theorem stm0 (ks : List Int) (n : Int) (hk : kindsOK ks = true) (hn : 0 ≤ n ∧ n ≤ 6) : GSt ks n 0 10 300 0 := stm_go ks n hk hn 0 (by omega) 0 0 0 (by omega) 0 10 300 (by omega) (by omega)
theorem stm1 (ks : List Int) (n : Int) (hk : kindsOK ks = true) (hn : 0 ≤ n ∧ n ≤ 6) : GSt ks n 1 28 900 1 := stm_go ks n hk hn 1 (by omega) 0 10 300 (fun _ => stm0 ks n hk hn) 1 28 900 (by omega) (by omega)
theorem stm2 (ks : List Int) (n : Int) (hk : kindsOK ks = true) (hn : 0 ≤ n ∧ n ≤ 6) : GSt ks n 2 64 2100 2 := stm_go ks n hk hn 2 (by omega) 1 28 900 (fun _ => stm1 ks n hk hn) 2 64 2100 (by omega) (by omega)
end Go.Ry
