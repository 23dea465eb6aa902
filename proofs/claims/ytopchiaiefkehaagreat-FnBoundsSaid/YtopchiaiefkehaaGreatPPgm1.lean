/- Programs that are drawn: they are right. No condition. -/
import Derived.Test.YtopchiaiefkehaaGreatPGnr5
import Derived.Test.YtopchiaiefkehaaGreatPDrw2
import Derived.Test.YtopchiaiefkehaaGreatPVer6
set_option linter.unusedVariables false
set_option linter.unusedSimpArgs false
namespace Go.Ry
open Go.Proofs

/-! ### what is right -/
theorem verAllM_snoc {ks : List Int} {r : Rou} : ∀ {l : List Rou} {i : Int}, (verAllM ks l i).2.2 = 0 → (verM ks (i + l.length) r.1).2 = 0 → (verAllM ks (l ++ [r]) i).2.2 = 0
  | [], i, _, h2 => by
    rw [List.nil_append, verAllM_cons, if_neg (by simp at h2; simpa using h2)]; rfl
  | x :: l, i, h1, h2 => by
    rw [verAllM_cons] at h1
    rw [List.cons_append, verAllM_cons]
    by_cases hx : (verM ks i x.1).2 = 0
    · rw [if_neg (by simpa using hx)] at h1 ⊢
      refine verAllM_snoc h1 ?_
      rw [show i + 1 + (l.length : Int) = i + ((x :: l).length : Int) by rw [List.length_cons]; omega]; exact h2
    · rw [if_pos hx] at h1; exact absurd h1 hx
theorem chkT_of {n : Int} : ∀ {l : List Tsk} {i : Int}, (∀ t ∈ l, tskOK t = true ∧ t.2.2.2.2.2.1 < n) → (chkT n l i) = (0, 0)
  | [], i, _ => rfl
  | t :: l, i, h => by
    obtain ⟨a, b⟩ := h t (by simp)
    rw [chkT_cons, if_neg (by rw [a]; simp), if_neg (by omega)]
    exact chkT_of fun x hx => h x (by simp [hx])
theorem check_of {ks : List Int} {rs : List Rou} {ts : List Tsk} {sf : List Bool} (h1 : kindsOK ks = true) (h2 : rousOK rs = true) (h3 : sf.length = 8) (h4 : (verAllM ks rs 0).2.2 = 0) (h5 : 1 ≤ ts.length ∧ ts.length ≤ 5) (h6 : ∀ t ∈ ts, tskOK t = true ∧ t.2.2.2.2.2.1 < rs.length) : checkM ks rs ts sf = (0, 0) := by
  unfold checkM
  rw [if_neg (by rw [h1]; simp), if_neg (by rw [h2]; simp), if_neg (by omega), if_neg (by simpa using h4), if_neg (by omega), if_neg (by omega)]
  exact chkT_of h6

/-! ### routines -/
structure RuS where
  i : Int
  p : Int
  q : Int
  r : List Rou
structure RuInv (ks : List Int) (l : List Int) (p0 : Int) (m : Nat) (x : RuS) : Prop where
  hm : m = x.i.toNat
  i0 : 0 ≤ x.i
  i4 : x.i + x.r.length ≤ 4
  i1 : 1 ≤ x.i + x.r.length
  src : SrcOK l x.p x.q
  hp : p0 ≤ x.p ∧ x.p ≤ p0 + 11000 * x.r.length
  ok : ∀ r ∈ x.r, codeOK r.1 = true
  ver : (verAllM ks x.r 0).2.2 = 0
def RuStep (ks : List Int) (l : List Int) (x y : RuS) : Prop := 0 < x.i ∧ ∃ r, TT n_spec_l00Src_right [.one (.ptrB 0 0), .one (.sl tyInt ks), eI (x.r.length : Int)] [srcO l x.p x.q] (.one (.row 1)) [srcO l y.p y.q, rwI r] ∧ y.i = x.i - 1 ∧ y.r = x.r ++ [(r, ())]
def RuDone (x : RuS) : Prop := x.i = 0
theorem ru_go (ks : List Int) (hk : kindsOK ks = true) (l : List Int) (p0 : Int) (hp0 : p0 ≤ 500000) : ∀ m x, RuInv ks l p0 m x → RuDone x ∨ ∃ m' y, m' < m ∧ RuInv ks l p0 m' y ∧ RuStep ks l x y := by
  rintro m ⟨i, p, q, r⟩ ⟨h1, h2, h3, h3', h4, h5, h6, h7⟩
  simp only at h1 h2 h3 h3' h4 h5 h6 h7
  by_cases hd : i = 0
  · exact .inl hd
  obtain ⟨c, p1, q1, v1, v2, v3, v4⟩ := c_right ks (r.length : Int) hk (by omega) l p q h4 (by omega)
  refine .inr ⟨(i - 1).toNat, ⟨i - 1, p1, q1, r ++ [(c, ())]⟩, by omega, ⟨rfl, by show 0 ≤ i - 1; omega, by show i - 1 + ((r ++ [(c, ())]).length : Int) ≤ 4; rw [List.length_append, List.length_singleton]; omega, by show 1 ≤ i - 1 + ((r ++ [(c, ())]).length : Int); rw [List.length_append, List.length_singleton]; omega, v3, by show p0 ≤ p1 ∧ p1 ≤ p0 + 11000 * ((r ++ [(c, ())]).length : Int); rw [List.length_append, List.length_singleton]; omega, fun k hk => ?_, ?_⟩, by show 0 < i; omega, c, v4, rfl, rfl⟩
  · rcases List.mem_append.1 hk with hk | hk
    · exact h6 k hk
    · rw [List.mem_singleton] at hk
      subst hk
      exact v1.1
  · refine verAllM_snoc h7 ?_
    show (verM ks (0 + (r.length : Int)) c).2 = 0
    rw [show (0 : Int) + r.length = r.length by omega, v1.2]
theorem c_routines (ks : List Int) (hk : kindsOK ks = true) (l : List Int) (p q : Int) (hs : SrcOK l p q) (hp : p ≤ 450000) :
    ∃ (rs : List Rou) (p' q' : Int), ((1 ≤ rs.length ∧ rs.length ≤ 4) ∧ rousOK rs = true ∧ (verAllM ks rs 0).2.2 = 0) ∧ (p ≤ p' ∧ p' ≤ p + 44010) ∧ SrcOK l p' q' ∧ TT n_spec_l00Src_routines [.one (.ptrB 0 0), .one (.sl tyInt ks)] [srcO l p q] (.one (.row 1)) [srcO l p' q', .nest t_impl_Routine tRou ⟨0, t_impl_Instr, tIns⟩ rs none] := by
  obtain ⟨v, p1, q1, v1, v2, v3, v4⟩ := c_next 4 l p q hs (by omega)
  have i0 : RuInv ks l p1 (1 + v).toNat ⟨1 + v, p1, q1, []⟩ := ⟨rfl, by show 0 ≤ 1 + v; omega, by show 1 + v + 0 ≤ 4; omega, by show 1 ≤ 1 + v + 0; omega, v3, by show p1 ≤ p1 ∧ p1 ≤ p1 + 11000 * 0; omega, fun k hk => (by cases hk), rfl⟩
  obtain ⟨fin, hrun⟩ := Runs.go (ru_go ks hk l p1 (by omega)) (1 + v).toNat _ i0
  obtain ⟨hdone, m0, hinv⟩ := hrun.fin
  have hfi : fin.i = 0 := hdone
  have hpf := hinv.hp
  have h4 := hinv.i4
  have h1 := hinv.i1
  refine ⟨fin.r, fin.p, fin.q, ⟨by omega, ?_, hinv.ver⟩, by omega, hinv.src, r_spec_l00Src_routines ks l p q ⟨_, _, _, _, v4, fun m i l' p' q' r => l = l' ∧ Runs (RuInv ks l p1) (RuStep ks l) RuDone m ⟨i, p', q', r⟩ fin, ⟨_, rfl, rfl, by rw [w64 (x := 1 + v) (by omega)]; exact hrun⟩, ?_⟩⟩
  · simp only [rousOK, rouOK, Bool.and_eq_true, decide_eq_true_eq, List.all_eq_true]
    exact ⟨by omega, fun r hr => hinv.ok r hr⟩
  rintro m i l' p' q' r ⟨rfl, hrun⟩
  cases hrun with
  | done h1 h2 =>
    have h2 : i = 0 := h2
    exact ifP_f (by omega) ⟨rfl, rfl⟩
  | @step _ _ m' y _ h1 hlt hst hrest =>
    obtain ⟨hc, c, ts, e1, e2⟩ := hst
    have hc : i > 0 := hc
    have hi4 : i + (r.length : Int) ≤ 4 := h1.i4
    obtain ⟨yi, yp, yq, yr⟩ := y
    simp only at ts e1 e2
    subst e1 e2
    refine ifP_t hc ⟨_, _, _, _, ts, by simp only [List.length_cons, List.length_nil]; omega, m', hlt, rfl, rfl, ?_⟩
    rw [w64 (x := i - 1) (by omega)]
    exact hrest

/-! ### bits -/
structure BlS where
  i : Int
  p : Int
  q : Int
  r : List Bool
structure BlInv (k : Int) (l : List Int) (p0 : Int) (m : Nat) (x : BlS) : Prop where
  hm : m = (k - x.i).toNat
  i0 : 0 ≤ x.i
  ik : x.i ≤ k
  len : (x.r.length : Int) = x.i
  src : SrcOK l x.p x.q
  hp : p0 ≤ x.p ∧ x.p ≤ p0 + 3 * x.i
def BlStep (k : Int) (l : List Int) (x y : BlS) : Prop := x.i < k ∧ ∃ b, TT n_spec_l00Src_chance [.one (.ptrB 0 0), eI 2] [srcO l x.p x.q] (eB b) [srcO l y.p y.q] ∧ y.i = x.i + 1 ∧ y.r = x.r ++ [b]
def BlDone (k : Int) (x : BlS) : Prop := x.i = k
theorem bl_go (k : Int) (hk : k ≤ 1000) (l : List Int) (p0 : Int) (hp0 : p0 ≤ 1000000) : ∀ m x, BlInv k l p0 m x → BlDone k x ∨ ∃ m' y, m' < m ∧ BlInv k l p0 m' y ∧ BlStep k l x y := by
  rintro m ⟨i, p, q, r⟩ ⟨h1, h2, h3, h4, h5, h6⟩
  simp only at h1 h2 h3 h4 h5 h6
  by_cases hd : i = k
  · exact .inl hd
  obtain ⟨b, p1, q1, v1, v2, v3⟩ := c_chance 2 (by omega) l p q h5 (by omega)
  exact .inr ⟨(k - (i + 1)).toNat, ⟨i + 1, p1, q1, r ++ [b]⟩, by omega, ⟨rfl, by show 0 ≤ i + 1; omega, by show i + 1 ≤ k; omega, by show ((r ++ [b]).length : Int) = i + 1; rw [List.length_append, List.length_singleton]; omega, v2, by show p0 ≤ p1 ∧ p1 ≤ p0 + 3 * (i + 1); omega⟩, by show i < k; omega, b, v3, rfl, rfl⟩
theorem c_bools (k : Int) (hk : 0 ≤ k ∧ k ≤ 1000) (l : List Int) (p q : Int) (hs : SrcOK l p q) (hp : p ≤ 900000) :
    ∃ (bs : List Bool) (p' q' : Int), (bs.length : Int) = k ∧ (p ≤ p' ∧ p' ≤ p + 3 * k) ∧ SrcOK l p' q' ∧ TT n_spec_l00Src_bools [.one (.ptrB 0 0), eI k] [srcO l p q] (.one (.row 1)) [srcO l p' q', .row t_bool .bool bs] := by
  have i0 : BlInv k l p (k - 0).toNat ⟨0, p, q, []⟩ := ⟨rfl, by show (0 : Int) ≤ 0; omega, hk.1, rfl, hs, by show p ≤ p ∧ p ≤ p + 3 * 0; omega⟩
  obtain ⟨fin, hrun⟩ := Runs.go (bl_go k hk.2 l p (by omega)) (k - 0).toNat _ i0
  obtain ⟨hdone, m0, hinv⟩ := hrun.fin
  have hfi : fin.i = k := hdone
  have hpf := hinv.hp
  have hln := hinv.len
  refine ⟨fin.r, fin.p, fin.q, by omega, by omega, hinv.src, r_spec_l00Src_bools k l p q ⟨fun m i l' p' q' r => l = l' ∧ Runs (BlInv k l p) (BlStep k l) (BlDone k) m ⟨i, p', q', r⟩ fin, ⟨_, rfl, rfl, hrun⟩, ?_⟩⟩
  rintro m i l' p' q' r ⟨rfl, hrun⟩
  cases hrun with
  | done h1 h2 =>
    have h2 : i = k := h2
    exact ifP_f (by omega) ⟨rfl, rfl⟩
  | @step _ _ m' y _ h1 hlt hst hrest =>
    obtain ⟨hc, c, ts, e1, e2⟩ := hst
    have hc : i < k := hc
    have hi0 : 0 ≤ i := h1.i0
    have hrl : (r.length : Int) = i := h1.len
    obtain ⟨yi, yp, yq, yr⟩ := y
    simp only at ts e1 e2
    subst e1 e2
    refine ifP_t hc ⟨_, _, _, _, ts, by simp only [List.length_cons, List.length_nil]; omega, m', hlt, rfl, rfl, ?_⟩
    rw [w64 (x := i + 1) (by omega)]
    exact hrest

/-! ### tasks, and the program -/
structure TkS where
  i : Int
  p : Int
  q : Int
  r : List Tsk
structure TkInv (n : Int) (l : List Int) (p0 : Int) (m : Nat) (x : TkS) : Prop where
  hm : m = x.i.toNat
  i0 : 0 ≤ x.i
  i3 : x.i + x.r.length ≤ 3
  i1 : 1 ≤ x.i + x.r.length
  src : SrcOK l x.p x.q
  hp : p0 ≤ x.p ∧ x.p ≤ p0 + 21 * x.r.length
  ok : ∀ t ∈ x.r, tskOK t = true ∧ t.2.2.2.2.2.1 < n
def TkStep (n : Int) (l : List Int) (x y : TkS) : Prop := 0 < x.i ∧ ∃ t : Tsk, TT n_spec_l00Src_task [.one (.ptrB 0 0), eI n] [srcO l x.p x.q] (tsk t.1 t.2.1 t.2.2.1 t.2.2.2.1 t.2.2.2.2.1 t.2.2.2.2.2.1) [srcO l y.p y.q] ∧ y.i = x.i - 1 ∧ y.r = x.r ++ [t]
def TkDone (x : TkS) : Prop := x.i = 0
theorem tk_go (n : Int) (hn : 1 ≤ n ∧ n ≤ 6) (l : List Int) (p0 : Int) (hp0 : p0 ≤ 1000000) : ∀ m x, TkInv n l p0 m x → TkDone x ∨ ∃ m' y, m' < m ∧ TkInv n l p0 m' y ∧ TkStep n l x y := by
  rintro m ⟨i, p, q, r⟩ ⟨h1, h2, h3, h3', h4, h5, h6⟩
  simp only at h1 h2 h3 h3' h4 h5 h6
  by_cases hd : i = 0
  · exact .inl hd
  obtain ⟨k, pe, d, pin, qu, ro, p1, q1, v1, v2, v3, v4⟩ := c_task' n hn l p q h4 (by omega)
  refine .inr ⟨(i - 1).toNat, ⟨i - 1, p1, q1, r ++ [(k, (pe, (d, (pin, (qu, (ro, ()))))))]⟩, by omega, ⟨rfl, by show 0 ≤ i - 1; omega, by show i - 1 + ((r ++ [_]).length : Int) ≤ 3; rw [List.length_append, List.length_singleton]; omega, by show 1 ≤ i - 1 + ((r ++ [_]).length : Int); rw [List.length_append, List.length_singleton]; omega, v3, by show p0 ≤ p1 ∧ p1 ≤ p0 + 21 * ((r ++ [_]).length : Int); rw [List.length_append, List.length_singleton]; omega, fun t ht => ?_⟩, by show 0 < i; omega, (k, (pe, (d, (pin, (qu, (ro, ())))))), v4, rfl, rfl⟩
  rcases List.mem_append.1 ht with ht | ht
  · exact h6 t ht
  · rw [List.mem_singleton] at ht
    subst ht
    exact ⟨v1.1.1, v1.2.2⟩
@[reducible] def prgR (ks : List Int) (j : Nat) : Ent := .agg [.sl tyInt ks, .row j, .row (j + 1), .row (j + 2)]
@[reducible] def prgX (rs : List Rou) (ts : List Tsk) (sf : List Bool) : List Ob := [.nest t_impl_Routine tRou ⟨0, t_impl_Instr, tIns⟩ rs none, .row t_impl_Task tTsk ts, .row t_bool .bool sf]
/-- What is drawn is right. -/
structure Drawn (ks : List Int) (rs : List Rou) (ts : List Tsk) (sf : List Bool) : Prop where
  ok : prgOK ks rs ts sf = true
  chk : checkM ks rs ts sf = (0, 0)
  sm : prgSmall ks rs ts sf
theorem drawn_of {ks : List Int} {rs : List Rou} {ts : List Tsk} {sf : List Bool} (h1 : kindsOK ks = true) (h2 : rousOK rs = true) (h3 : sf.length = 8) (h4 : (verAllM ks rs 0).2.2 = 0) (h5 : 1 ≤ ts.length ∧ ts.length ≤ 5) (h6 : ∀ t ∈ ts, tskOK t = true ∧ t.2.2.2.2.2.1 < rs.length) : Drawn ks rs ts sf := by
  have hc := check_of h1 h2 h3 h4 h5 h6
  have a : ks.length ≤ 8 := by
    simp only [kindsOK, Bool.and_eq_true, decide_eq_true_eq] at h1; omega
  have b := rousOK_fit h2
  exact ⟨by simp [prgOK, hc], hc, ⟨by omega, ⟨by have := b.1; omega, fun r hr => by have := (b.2 r hr).1; omega⟩, by omega, by omega⟩⟩
theorem c_program (l : List Int) (p q : Int) (hs : SrcOK l p q) (hp : p ≤ 400000) :
    ∃ (ks : List Int) (rs : List Rou) (ts : List Tsk) (sf : List Bool) (p' q' : Int), Drawn ks rs ts sf ∧ (p ≤ p' ∧ p' ≤ p + 44200) ∧ SrcOK l p' q' ∧ TT n_spec_l00Src_program [.one (.ptrB 0 0)] [srcO l p q] (prgR ks 1) (srcO l p' q' :: prgX rs ts sf) := by
  obtain ⟨ks, p1, q1, ⟨k1, k1'⟩, k2, k3, k4⟩ := c_kinds l p q hs (by omega)
  obtain ⟨rs, p2, q2, ⟨r1, r1', r1''⟩, r2, r3, r4⟩ := c_routines ks k1 l p1 q1 k3 (by omega)
  obtain ⟨sf, p3, q3, s1, s2, s3, s4⟩ := c_bools 8 (by omega) l p2 q2 r3 (by omega)
  obtain ⟨v, p4, q4, v1, v2, v3, v4⟩ := c_next 3 l p3 q3 s3 (by omega)
  have i0 : TkInv rs.length l p4 (1 + v).toNat ⟨1 + v, p4, q4, []⟩ := ⟨rfl, by show 0 ≤ 1 + v; omega, by show 1 + v + 0 ≤ 3; omega, by show 1 ≤ 1 + v + 0; omega, v3, by show p4 ≤ p4 ∧ p4 ≤ p4 + 21 * 0; omega, fun k hk => by cases hk⟩
  obtain ⟨fin, hrun⟩ := Runs.go (tk_go rs.length (by omega) l p4 (by omega)) (1 + v).toNat _ i0
  obtain ⟨hdone, m0, hinv⟩ := hrun.fin
  have hfi : fin.i = 0 := hdone
  have hpf := hinv.hp
  have h4 := hinv.i3
  have h1 := hinv.i1
  refine ⟨ks, rs, fin.r, sf, fin.p, fin.q, drawn_of k1 r1' (by omega) r1'' (by omega) hinv.ok, by omega, hinv.src, r_spec_l00Src_program l p q ⟨_, _, _, _, k4, _, _, _, _, r4, _, _, _, _, s4, _, _, _, _, v4,
    fun m i l' p' q' ks' rs' r sf' => (l = l' ∧ ks = ks' ∧ rs = rs' ∧ sf = sf') ∧ Runs (TkInv rs.length l p4) (TkStep rs.length l) TkDone m ⟨i, p', q', r⟩ fin, ⟨_, ⟨rfl, rfl, rfl, rfl⟩, by rw [w64 (x := 1 + v) (by omega)]; exact hrun⟩, ?_⟩⟩
  rintro m i l' p' q' ks' rs' r sf' ⟨⟨rfl, rfl, rfl, rfl⟩, hrun⟩
  cases hrun with
  | done h1 h2 =>
    have h2 : i = 0 := h2
    exact ifP_f (by omega) ⟨rfl, rfl⟩
  | @step _ _ m' y _ h1 hlt hst hrest =>
    obtain ⟨hc, t, ts, e1, e2⟩ := hst
    have hc : i > 0 := hc
    have hi4 : i + (r.length : Int) ≤ 3 := h1.i3
    obtain ⟨yi, yp, yq, yr⟩ := y
    simp only at ts e1 e2
    subst e1 e2
    refine ifP_t hc ⟨_, _, _, _, _, _, _, _, _, ts, by simp only [List.length_cons, List.length_nil]; omega, m', hlt, ⟨rfl, rfl, rfl, rfl⟩, ?_⟩
    rw [w64 (x := i - 1) (by omega)]
    exact hrest
theorem c_ProgramDrawn (l : List Int) (hl : l.length ≤ 1048576) (hb : ∀ n ∈ l, 0 ≤ n ∧ n ≤ 255) :
    ∃ (ks : List Int) (rs : List Rou) (ts : List Tsk) (sf : List Bool), Drawn ks rs ts sf ∧ TT n_spec_ProgramDrawn [.one (.sl u8s l)] [] (prgR ks 0) (prgX rs ts sf) := by
  obtain ⟨q0, s1, s2⟩ := c_source l hl hb
  obtain ⟨ks, rs, ts, sf, p1, q1, a1, a2, a3, a4⟩ := c_program l 0 q0 s1 (by omega)
  exact ⟨ks, rs, ts, sf, a1, r_spec_ProgramDrawn l ⟨_, _, _, s2, _, _, _, _, _, _, _, a4, rfl, rfl⟩⟩
end Go.Ry
