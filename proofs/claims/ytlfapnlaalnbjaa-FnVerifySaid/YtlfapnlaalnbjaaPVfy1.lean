/- Code that is doubtful; verifying, stacks: the program's and the reference's. No condition. -/
import Derived.Test.YtlfapnlaalnbjaaPGnr5
import Derived.Test.YtlfapnlaalnbjaaPSrt1
set_option linter.unusedVariables false
set_option linter.unusedSimpArgs false
namespace Go.Ry
open Go.Proofs

theorem codeOK_len {l : List Ins} (h : codeOK l = true) : l.length ≤ 40 := (codeOK_fit h).1
@[reducible] def reps5 : List Ins := [(24, (2, ())), (24, (2, ())), (24, (2, ())), (24, (2, ())), (24, (2, ()))]
theorem c_doubtful (ks : List Int) (n : Int) (hk : kindsOK ks = true) (hn : 0 ≤ n ∧ n ≤ 6) (l : List Int) (p q : Int) (hs : SrcOK l p q) (hp : p ≤ 100000) :
    ∃ (r : List Ins) (p' q' : Int), r.length ≤ 60 ∧ SrcOK l p' q' ∧ TT n_spec_l00Src_doubtful [.one (.ptrB 0 0), .one (.sl tyInt ks), eI n] [srcO l p q] (.one (.row 1)) [srcO l p' q', rwI r] := by
  obtain ⟨c, p1, q1, hc, r1, s1, t1⟩ := c_right ks n hk hn l p q hs (by omega)
  have hcl := codeOK_len hc.1
  obtain ⟨b, p2, q2, r2, s2, t2⟩ := c_chance 3 (by omega) l p1 q1 s1 (by omega)
  cases b
  · obtain ⟨k, p3, q3, k1, r3, s3, t3⟩ := c_next (c.length + 1) l p2 q2 s2 (by omega)
    have t3' : TT n_spec_l00Src_next [.one (.ptrB 0 0), eI (wI ((c.length : Int) + 1))] [srcO l p2 q2] (eI k) [srcO l p3 q3] := by rw [w64 (x := (c.length : Int) + 1) (by omega)]; exact t3
    have hkl : 0 ≤ k ∧ k ≤ c.length := by omega
    obtain ⟨v, p4, q4, v1, r4, s4, t4⟩ := c_next 4 l p3 q3 s3 (by omega)
    have tail : ∀ (r : List Ins) (p5 q5 : Int), r.length ≤ 60 → SrcOK l p5 q5 → p5 ≤ 1000000 → ∃ (r' : List Ins) (p6 q6 : Int), r'.length ≤ 60 ∧ SrcOK l p6 q6 ∧
        ifB (decide ((r.length : Int) > 40)) (∃ (b41 : Bool) (l42 : List Int) (n43 n44 : Int), TT n_spec_l00Src_chance [(.one (.ptrB 0 0)), (eI 3)] [srcO l p5 q5] (eB b41) [srcO l42 n43 n44] ∧
          (ifB (!b41) ((0 ≤ (0 : Int) ∧ (0 : Int) ≤ 40 ∧ 40 ≤ (r.length : Int)) ∧ ((Ent.one (.row 1)) = (.one (.row 1)) ∧ ([srcO l42 n43 n44, rwI (r.take (Int.toNat 40))] : List Ob) = [srcO l p6 q6, rwI r'])) ((Ent.one (.row 1)) = (.one (.row 1)) ∧ ([srcO l42 n43 n44, rwI r] : List Ob) = [srcO l p6 q6, rwI r'])))
          ((Ent.one (.row 1)) = (.one (.row 1)) ∧ ([srcO l p5 q5, rwI r] : List Ob) = [srcO l p6 q6, rwI r']) := by
      intro r p5 q5 hr hs5 hp5
      by_cases hlong : (r.length : Int) > 40
      · obtain ⟨b, p6, q6, r6, s6, t6⟩ := c_chance 3 (by omega) l p5 q5 hs5 (by omega)
        cases b
        · exact ⟨r.take (Int.toNat 40), p6, q6, by rw [List.length_take]; omega, s6, ifP_t hlong ⟨_, _, _, _, t6, ifB_t rfl ⟨by omega, rfl, rfl⟩⟩⟩
        · exact ⟨r, p6, q6, hr, s6, ifP_t hlong ⟨_, _, _, _, t6, ifB_f rfl ⟨rfl, rfl⟩⟩⟩
      · exact ⟨r, p5, q5, hr, hs5, ifP_f hlong ⟨rfl, rfl⟩⟩
    by_cases v0 : v = 0
    · by_cases hlt : k < c.length
      · obtain ⟨op, a, p5, q5, _, r5, s5, t5⟩ := c_instr l p4 q4 s4 (by omega)
        obtain ⟨r', p6, q6, x1, x2, x3⟩ := tail (c.set k.toNat (op, (a, ()))) p5 q5 (by rw [List.length_set]; omega) s5 (by omega)
        refine ⟨r', p6, q6, x1, x2, r_spec_l00Src_doubtful ks n l p q ⟨_, _, _, _, t1, _, _, _, _, t2, ifB_f rfl ⟨_, _, _, _, t3', fun l' p' q' r => l = l' ∧ p5 = p' ∧ q5 = q' ∧ c.set k.toNat (op, (a, ())) = r,
          ⟨_, _, _, _, t4, ifE_t v0 (ifP_t hlt ⟨_, _, _, _, _, t5, ⟨hkl.1, hlt⟩, rfl, rfl, rfl, rfl⟩)⟩, ?_⟩⟩⟩
        rintro _ _ _ _ ⟨rfl, rfl, rfl, rfl⟩
        exact x3
      · obtain ⟨r', p6, q6, x1, x2, x3⟩ := tail c p4 q4 (by omega) s4 (by omega)
        refine ⟨r', p6, q6, x1, x2, r_spec_l00Src_doubtful ks n l p q ⟨_, _, _, _, t1, _, _, _, _, t2, ifB_f rfl ⟨_, _, _, _, t3', fun l' p' q' r => l = l' ∧ p4 = p' ∧ q4 = q' ∧ c = r,
          ⟨_, _, _, _, t4, ifE_t v0 (ifP_f hlt ⟨rfl, rfl, rfl, rfl⟩)⟩, ?_⟩⟩⟩
        rintro _ _ _ _ ⟨rfl, rfl, rfl, rfl⟩
        exact x3
    by_cases v1' : v = 1
    · obtain ⟨op, a, p5, q5, _, r5, s5, t5⟩ := c_instr l p4 q4 s4 (by omega)
      obtain ⟨r', p6, q6, x1, x2, x3⟩ := tail (((([] : List Ins) ++ ((c.take (Int.toNat k)).drop (Int.toNat 0))) ++ [(op, (a, ()))]) ++ ((c.take (Int.toNat (c.length : Int))).drop (Int.toNat k))) p5 q5 (by
        simp only [List.length_append, List.length_drop, List.length_take, List.length_cons, List.length_nil]; omega) s5 (by omega)
      refine ⟨r', p6, q6, x1, x2, r_spec_l00Src_doubtful ks n l p q ⟨_, _, _, _, t1, _, _, _, _, t2, ifB_f rfl ⟨_, _, _, _, t3', fun l' p' q' r => l = l' ∧ p5 = p' ∧ q5 = q' ∧ (((([] : List Ins) ++ ((c.take (Int.toNat k)).drop (Int.toNat 0))) ++ [(op, (a, ()))]) ++ ((c.take (Int.toNat (c.length : Int))).drop (Int.toNat k))) = r,
        ⟨_, _, _, _, t4, ifE_f v0 (ifE_t v1' ⟨by omega, by omega, ?_, _, _, _, _, _, t5, ?_, ?_, rfl, rfl, rfl, rfl⟩)⟩, ?_⟩⟩⟩
      · simp only [List.length_drop, List.length_take, List.length_nil]; omega
      · simp only [List.length_append, List.length_drop, List.length_take, List.length_cons, List.length_nil]; omega
      · simp only [List.length_append, List.length_drop, List.length_take, List.length_cons, List.length_nil]; omega
      · rintro _ _ _ _ ⟨rfl, rfl, rfl, rfl⟩
        exact x3
    by_cases v2 : v = 2
    · by_cases hlt : k < c.length
      · have e : wI (k + 1) = k + 1 := w64 (by omega)
        obtain ⟨r', p6, q6, x1, x2, x3⟩ := tail ((([] : List Ins) ++ ((c.take (Int.toNat k)).drop (Int.toNat 0))) ++ ((c.take (Int.toNat (c.length : Int))).drop (Int.toNat (wI (k + 1))))) p4 q4 (by
          simp only [List.length_append, List.length_drop, List.length_take, List.length_nil, e]; omega) s4 (by omega)
        refine ⟨r', p6, q6, x1, x2, r_spec_l00Src_doubtful ks n l p q ⟨_, _, _, _, t1, _, _, _, _, t2, ifB_f rfl ⟨_, _, _, _, t3', fun l' p' q' r => l = l' ∧ p4 = p' ∧ q4 = q' ∧ ((([] : List Ins) ++ ((c.take (Int.toNat k)).drop (Int.toNat 0))) ++ ((c.take (Int.toNat (c.length : Int))).drop (Int.toNat (wI (k + 1))))) = r,
          ⟨_, _, _, _, t4, ifE_f v0 (ifE_f v1' (ifE_t v2 (ifP_t hlt ⟨by omega, by omega, ?_, ?_, rfl, rfl, rfl, rfl⟩)))⟩, ?_⟩⟩⟩
        · simp only [List.length_drop, List.length_take, List.length_nil]; omega
        · simp only [List.length_append, List.length_drop, List.length_take, List.length_nil, e]; omega
        · rintro _ _ _ _ ⟨rfl, rfl, rfl, rfl⟩
          exact x3
      · obtain ⟨r', p6, q6, x1, x2, x3⟩ := tail c p4 q4 (by omega) s4 (by omega)
        refine ⟨r', p6, q6, x1, x2, r_spec_l00Src_doubtful ks n l p q ⟨_, _, _, _, t1, _, _, _, _, t2, ifB_f rfl ⟨_, _, _, _, t3', fun l' p' q' r => l = l' ∧ p4 = p' ∧ q4 = q' ∧ c = r,
          ⟨_, _, _, _, t4, ifE_f v0 (ifE_f v1' (ifE_t v2 (ifP_f hlt ⟨rfl, rfl, rfl, rfl⟩)))⟩, ?_⟩⟩⟩
        rintro _ _ _ _ ⟨rfl, rfl, rfl, rfl⟩
        exact x3
    · obtain ⟨u, p5, q5, u1, r5, s5, t5⟩ := c_next 6 l p4 q4 s4 (by omega)
      obtain ⟨r', p6, q6, x1, x2, x3⟩ := tail (c ++ ((reps5.take (Int.toNat u)).drop (Int.toNat 0))) p5 q5 (by
        simp only [List.length_append, List.length_drop, List.length_take, List.length_cons, List.length_nil]; omega) s5 (by omega)
      refine ⟨r', p6, q6, x1, x2, r_spec_l00Src_doubtful ks n l p q ⟨_, _, _, _, t1, _, _, _, _, t2, ifB_f rfl ⟨_, _, _, _, t3', fun l' p' q' r => l = l' ∧ p5 = p' ∧ q5 = q' ∧ (c ++ ((reps5.take (Int.toNat u)).drop (Int.toNat 0))) = r,
        ⟨_, _, _, _, t4, ifE_f v0 (ifE_f v1' (ifE_f v2 (ifE_t (by omega) ⟨_, _, _, _, t5, ⟨by omega, by omega, by simp; omega⟩, ?_, rfl, rfl, rfl, rfl⟩)))⟩, ?_⟩⟩⟩
      · simp only [List.length_drop, List.length_take, List.length_cons, List.length_nil]; omega
      · rintro _ _ _ _ ⟨rfl, rfl, rfl, rfl⟩
        exact x3
  · exact ⟨c, p2, q2, by omega, s2, r_spec_l00Src_doubtful ks n l p q ⟨_, _, _, _, t1, _, _, _, _, t2, ifB_t rfl ⟨rfl, rfl⟩⟩⟩
theorem c_DoubtCode (l : List Int) (ks : List Int) (n : Int) (hk : kindsOK ks = true) (hn : 0 ≤ n ∧ n ≤ 6) (hl : l.length ≤ 1048576) (hb : ∀ n ∈ l, 0 ≤ n ∧ n ≤ 255) :
    ∃ (r : List Ins) (hi : Nat), ((r.take hi).drop 0).length ≤ 40 ∧ TT n_spec_DoubtCode [.one (.sl u8s l), .one (.sl tyInt ks), eI n] [] (.one (.win 0 0 hi)) [rwI r] := by
  obtain ⟨q0, s1, s2⟩ := c_source l hl hb
  obtain ⟨r, p1, q1, a1, a2, a3⟩ := c_doubtful ks n hk hn l 0 q0 s1 (by omega)
  refine ⟨r, Int.toNat (if 40 < (r.length : Int) then 40 else (r.length : Int)), ?_, r_spec_DoubtCode l ks n ⟨_, _, _, s2, _, _, _, _, a3, ⟨by omega, ?_, ?_⟩, rfl, rfl⟩⟩
  · rw [List.drop_zero, List.length_take]
    split <;> omega
  · split <;> omega
  · split <;> omega

/-! ### verifying -/
def verC (l : List Ins) (ks : List Int) (n : Int) : Int × Int := if codeOK l = true then verM ks n l else (0, 1)
theorem c_many_Ins (l : List Ins) (hl : l.length ≤ 4096) : TT n_impl_many_impl_Instr [.one (.sl tIns l)] [] (eI 0) [] :=
  r_impl_many_impl_Instr l ⟨_, c_impl_when _ _, by rw [if_neg (by simp; omega)], rfl⟩
theorem c_many_int (l : List Int) (hl : l.length ≤ 4096) : TT n_impl_many_int [.one (.sl tyInt l)] [] (eI 0) [] :=
  r_impl_many_int l ⟨_, c_impl_when _ _, by rw [if_neg (by simp; omega)], rfl⟩
theorem c_impl_verifyCode (l : List Ins) (ks : List Int) (n : Int) (hl : l.length ≤ 40) (hk : kindsOK ks = true) (hn : 0 ≤ n ∧ n ≤ 6) : TT n_impl_verifyCode [.one (.sl tIns l), .one (.sl tyInt ks), eI n] [] (eI (if codeOK l = true then 0 else 1)) [] := by
  have hk8 := (kindsOK_in hk).1
  have hkk := c_impl_areKinds ks (by omega)
  rw [hk] at hkk
  have hw := c_impl_within n 0 6
  rw [show within n 0 6 = true from within_iff.2 hn] at hw
  refine r_impl_verifyCode l ks n ⟨_, c_many_Ins l (by omega), _, c_many_int ks (by omega), _, c_impl_when _ _, _, hkk, ifB_f rfl ⟨_, c_impl_isCode l (by omega), _, c_impl_when _ _, _, hw, _, c_impl_when _ _, _, c_impl_first _ (by simp), ?_, rfl⟩⟩
  have h40 : decide ((l.length : Int) > 40) = false := decide_eq_false (by omega)
  rw [h40]
  cases codeOK l <;> rfl
theorem c_impl_VerifyCode (l : List Ins) (ks : List Int) (n : Int) (hl : l.length ≤ 40) (hk : kindsOK ks = true) (hn : 0 ≤ n ∧ n ≤ 6) : TT n_impl_VerifyCode [.one (.sl tIns l), .one (.sl tyInt ks), eI n] [] (tupII (verC l ks n).1 (verC l ks n).2) [] := by
  refine r_impl_VerifyCode l ks n ⟨_, c_impl_verifyCode l ks n hl hk hn, ?_⟩
  by_cases h : codeOK l = true
  · rw [if_pos h, show verC l ks n = verM ks n l from if_pos h]
    have hv := c_impl_verify l ks n (codeOK_fit h) (kindsOK_in hk)
    rw [verI_verM ks n l] at hv
    exact ifN_f rfl ⟨_, _, _, hv, rfl, rfl⟩
  · rw [if_neg h, show verC l ks n = (0, 1) from if_neg h]
    exact ifN_t (by decide) ⟨rfl, rfl⟩
theorem codeOK_all {l : List Ins} (hl : l.length ≤ 40) : codeOK l = l.all insOK := by
  unfold codeOK
  rw [decide_eq_true hl, Bool.true_and]
theorem c_spec_l04Ask (l : List Ins) (ks : List Int) (n : Int) (hl : l.length ≤ 40) (hk : kindsOK ks = true) (hn : 0 ≤ n ∧ n ≤ 6) : TT n_spec_l04Ask [.one (.sl tIns l), .one (.sl tyInt ks), eI n] [] (eI (if codeOK l = true then 0 else 1)) [] := by
  have hk8 := (kindsOK_in hk).1
  have hkk := c_spec_l04Kinds ks (by omega)
  rw [hk] at hkk
  have hw := c_spec_l01In n 0 6
  rw [show within n 0 6 = true from within_iff.2 hn] at hw
  have hc := c_spec_l02All l (by omega)
  rw [← codeOK_all hl] at hc
  refine r_spec_l04Ask l ks n (ifP_f (by omega) (ifP_f (by omega) (ifP_f (by omega) ⟨_, hkk, ifB_f rfl ⟨_, hc, ?_⟩⟩)))
  cases codeOK l
  · exact ifB_t rfl ⟨rfl, rfl⟩
  · exact ifB_f rfl ⟨_, hw, ifB_f rfl ⟨rfl, rfl⟩⟩
theorem c_spec_VerifyCode (l : List Ins) (ks : List Int) (n : Int) (hl : l.length ≤ 40) (hk : kindsOK ks = true) (hn : 0 ≤ n ∧ n ≤ 6) : TT n_spec_VerifyCode [.one (.sl tIns l), .one (.sl tyInt ks), eI n] [] (tupII (verC l ks n).1 (verC l ks n).2) [] := by
  have hk8 := (kindsOK_in hk).1
  refine r_spec_VerifyCode l ks n (ifP_f (by omega) (ifP_f (by omega) ⟨_, c_spec_l04Ask l ks n hl hk hn, ?_⟩))
  by_cases h : codeOK l = true
  · rw [if_pos h, show verC l ks n = verM ks n l from if_pos h]
    exact ifN_f rfl ⟨_, _, c_spec_verify l ks n (codeOK_fit h) (kindsOK_in hk), rfl, rfl⟩
  · rw [if_neg h, show verC l ks n = (0, 1) from if_neg h]
    exact ifN_t (by decide) ⟨rfl, rfl⟩

/-! ### stacks -/
/-- The stacks ahead of the instructions, and at the end. -/
def stks (ks : List Int) (n : Int) : List Ins → Int → ByteArray → List OS → List ByteArray
  | [], _, _, _ => [e0]
  | x :: l, i, s, o => s :: stks ks n l (i + 1) (stepS i x.1 x.2.1 ks n s o).2.1 (stepS i x.1 x.2.1 ks n s o).2.2
theorem stks_cons {ks : List Int} {n i : Int} {x : Ins} {l : List Ins} {s : ByteArray} {o : List OS} : stks ks n (x :: l) i s o = s :: stks ks n l (i + 1) (stepS i x.1 x.2.1 ks n s o).2.1 (stepS i x.1 x.2.1 ks n s o).2.2 := rfl
theorem stks_len {ks : List Int} {n : Int} : ∀ {l : List Ins} {i : Int} {s : ByteArray} {o : List OS}, (stks ks n l i s o).length = l.length + 1
  | [], _, _, _ => rfl
  | x :: l, i, s, o => by rw [stks_cons, List.length_cons, stks_len, List.length_cons]
theorem verS_ok_nil {ks : List Int} {n i : Int} {s : ByteArray} {o : List OS} (h : (verS ks n [] i s o).2 = 0) : o.length = 0 ∧ s = e0 := by
  rw [verS_nil] at h
  by_cases h1 : 0 < o.length
  · rw [if_pos h1] at h; cases h
  · rw [if_neg h1] at h
    by_cases h2 : s ≠ e0
    · rw [if_pos h2] at h; cases h
    · exact ⟨by omega, by simpa using h2⟩
theorem verS_ok_cons {ks : List Int} {n i : Int} {x : Ins} {l : List Ins} {s : ByteArray} {o : List OS} (h : (verS ks n (x :: l) i s o).2 = 0) : (stepS i x.1 x.2.1 ks n s o).1 = 0 ∧ (verS ks n l (i + 1) (stepS i x.1 x.2.1 ks n s o).2.1 (stepS i x.1 x.2.1 ks n s o).2.2).2 = 0 := by
  rw [verS_cons] at h
  by_cases h1 : (stepS i x.1 x.2.1 ks n s o).1 = 0
  · rw [if_neg (fun e => e h1)] at h; exact ⟨h1, h⟩
  · rw [if_pos h1] at h; exact absurd h h1
theorem verI_stks {ks : List Int} {n : Int} : ∀ {l : List Ins} {i : Int} {s : ByteArray} {o : List OS} {acc : List ByteArray}, Open s o → (verS ks n l i s o).2 = 0 → verI ks n l i s (o.map toI) acc = (acc ++ stks ks n l i s o, 0, 0)
  | [], i, s, o, acc, hO, h => by
    obtain ⟨h1, rfl⟩ := verS_ok_nil h
    rw [verI_nil, List.length_map, if_neg (by omega), if_neg (fun e => e rfl)]; rfl
  | x :: l, i, s, o, acc, hO, h => by
    obtain ⟨h1, h2⟩ := verS_ok_cons h
    obtain ⟨k1, k2⟩ := step_rel (at_ := i) (op := x.1) (a := x.2.1) (ks := ks) (n := n) hO
    obtain ⟨e1, e2, e3⟩ := k2 h1
    rw [verI_cons, k1, if_neg (fun e => e h1), e1, e2, verI_stks e3 h2, stks_cons, List.append_assoc]; rfl
theorem stks_small {ks : List Int} {n : Int} : ∀ {l : List Ins} {i : Int} {s : ByteArray} {o : List OS}, Open s o → (verS ks n l i s o).2 = 0 → ∀ x ∈ stks ks n l i s o, x.size ≤ 8
  | [], i, s, o, hO, h, x, hx => by
    obtain rfl : x = e0 := by simpa [stks] using hx
    decide
  | y :: l, i, s, o, hO, h, x, hx => by
    obtain ⟨h1, h2⟩ := verS_ok_cons h
    obtain ⟨k1, k2⟩ := step_rel (at_ := i) (op := y.1) (a := y.2.1) (ks := ks) (n := n) hO
    obtain ⟨e1, e2, e3⟩ := k2 h1
    rw [stks_cons] at hx
    rcases List.mem_cons.1 hx with rfl | hx
    · exact hO.size
    · exact stks_small e3 h2 x hx
theorem stks_last {ks : List Int} {n : Int} : ∀ {l : List Ins} {i : Int} {s : ByteArray} {o : List OS}, (stks ks n l i s o).getD l.length e0 = e0
  | [], _, _, _ => rfl
  | x :: l, i, s, o => by rw [stks_cons, List.length_cons, List.getD_cons_succ]; exact stks_last
def stksM (ks : List Int) (n : Int) (l : List Ins) : List ByteArray := stks ks n l 0 e0 []
theorem stksM_zero (ks : List Int) (n : Int) (l : List Ins) : (stksM ks n l).getD 0 e0 = e0 := by cases l <;> rfl
theorem c_impl_StackAt (l : List Ins) (ks : List Int) (n at_ : Int) (hc : codeOK l = true) (hv : verM ks n l = (0, 0)) (hk : kindsOK ks = true) (hn : 0 ≤ n ∧ n ≤ 6) (ha : 0 ≤ at_ ∧ at_ ≤ l.length) :
    TT n_impl_StackAt [.one (.sl tIns l), .one (.sl tyInt ks), eI n, eI at_] [] (.tup [(false, [.str ((stksM ks n l).getD at_.toNat e0)]), (false, [cI 0])]) [] := by
  have hl := codeOK_len hc
  have h1 := c_impl_verifyCode l ks n hl hk hn
  rw [if_pos hc] at h1
  have hvs : (verS ks n l 0 e0 []).2 = 0 := by show (verM ks n l).2 = 0; rw [hv]
  have h2 := c_impl_verify l ks n (codeOK_fit hc) (kindsOK_in hk)
  have e := verI_stks (acc := []) Open.nil hvs
  rw [show ([] : List OS).map toI = [] from rfl, List.nil_append] at e
  rw [e] at h2
  have hw := c_impl_within at_ 0 (l.length : Int)
  rw [show within at_ 0 (l.length : Int) = true from within_iff.2 ha] at hw
  have hlen := stks_len (ks := ks) (n := n) (l := l) (i := 0) (s := e0) (o := [])
  have hsm : ((stksM ks n l).getD at_.toNat e0).size ≤ 8 := by
    rw [List.getD_eq_getElem?_getD, List.getElem?_eq_getElem (by show at_.toNat < (stks ks n l 0 e0 []).length; omega)]
    exact stks_small Open.nil hvs _ (List.getElem_mem _)
  exact r_impl_StackAt l ks n at_ ⟨_, h1, ifN_f rfl ⟨_, _, _, h2, _, hw, _, c_impl_when _ _, _, c_impl_first _ (by simp), ifN_f rfl ⟨⟨ha.1, by show at_ < ((stks ks n l 0 e0 []).length : Int); omega⟩, _, r_strings_Clone _ ⟨_, c_Clone _ (by show ((stksM ks n l).getD at_.toNat e0).size ≤ 281474976710656; omega), rfl, rfl⟩, rfl, rfl⟩⟩⟩
theorem c_spec_StackAt (l : List Ins) (ks : List Int) (n at_ : Int) (hc : codeOK l = true) (hv : verM ks n l = (0, 0)) (hk : kindsOK ks = true) (hn : 0 ≤ n ∧ n ≤ 6) (ha : 0 ≤ at_ ∧ at_ ≤ l.length) :
    TT n_spec_StackAt [.one (.sl tIns l), .one (.sl tyInt ks), eI n, eI at_] [] (.tup [(false, [.str ((stksM ks n l).getD at_.toNat e0)]), (false, [cI 0])]) [] := by
  have hl := codeOK_len hc
  have hk8 := (kindsOK_in hk).1
  have hfit := codeOK_fit hc
  have h1 := c_spec_l04Ask l ks n hl hk hn
  rw [if_pos hc] at h1
  have hvs : (verS ks n l 0 e0 []).2 = 0 := by show (verM ks n l).2 = 0; rw [hv]
  have h2 := c_spec_verify l ks n hfit (kindsOK_in hk)
  rw [hv] at h2
  have hw := c_spec_l01In at_ 0 (l.length : Int)
  rw [show within at_ 0 (l.length : Int) = true from within_iff.2 ha] at hw
  refine r_spec_StackAt l ks n at_ (ifP_f (by omega) (ifP_f (by omega) ⟨_, h1, ifN_f rfl ⟨_, _, h2, ifN_f rfl ⟨_, hw, ifB_f rfl
    ⟨fun m i s o => 0 ≤ i ∧ i ≤ at_ ∧ m = (at_ - i).toNat ∧ Open s o ∧ (verS ks n (l.drop i.toNat) i s o).2 = 0 ∧ (stksM ks n l).drop i.toNat = stks ks n (l.drop i.toNat) i s o, ⟨_, rfl, by omega, by omega, rfl, Open.nil, hvs, rfl⟩, ?_⟩⟩⟩⟩))
  rintro m i s o ⟨h0, h3, rfl, hO, hvr, hst⟩
  refine ifP (fun hlt => ?_) (fun hge => ?_)
  · have hd : l.drop i.toNat = l.getD i.toNat ((0 : Int), ((0 : Int), ())) :: l.drop (i.toNat + 1) := drop_getD (by omega) _
    have hf := hfit.at (i := i.toNat) (by omega)
    rw [hd] at hvr hst
    obtain ⟨k1, k2⟩ := verS_ok_cons hvr
    obtain ⟨_, k3⟩ := step_rel (at_ := i) (op := (l.getD i.toNat ((0 : Int), ((0 : Int), ()))).1) (a := (l.getD i.toNat ((0 : Int), ((0 : Int), ()))).2.1) (ks := ks) (n := n) hO
    obtain ⟨_, _, k4⟩ := k3 k1
    have hstep := c_spec_step i (l.getD i.toNat ((0 : Int), ((0 : Int), ()))).1 (l.getD i.toNat ((0 : Int), ((0 : Int), ()))).2.1 ks n s o hO.len hO.size hO.floor (kindsOK_in hk) hf
    rw [w64 (x := i + 1) (by omega)]
    refine ⟨⟨h0, by omega⟩, _, _, _, hstep, _, ?_, rfl, by omega, by omega, rfl, k4, ?_, ?_⟩
    · omega
    · rw [toNat_succ h0]; exact k2
    · rw [toNat_succ h0, ← List.drop_drop, hst, stks_cons, List.drop_succ_cons, List.drop_zero]
  · have hi : i = at_ := by omega
    subst hi
    have e : (stksM ks n l).getD i.toNat e0 = s := by
      rw [List.getD_eq_getElem?_getD, ← Nat.add_zero i.toNat, ← List.getElem?_drop, hst]
      by_cases hE : i = l.length
      · rw [List.drop_eq_nil_of_le (by omega)] at hvr ⊢
        rw [(verS_ok_nil hvr).2]; rfl
      · rw [drop_getD (l := l) (i := i.toNat) (by omega) ((0 : Int), ((0 : Int), ())), stks_cons]; rfl
    rw [e]; exact ⟨rfl, rfl⟩
end Go.Ry
