/- Code that is drawn is taken by the verifier; kinds that are drawn. No condition. -/
import Derived.Test.YtlfapnlaalnbjaaPGnr4
set_option linter.unusedVariables false
set_option linter.unusedSimpArgs false
namespace Go.Ry
open Go.Proofs

/-! ### whole codes -/
structure RtS where
  i : Int
  p : Int
  q : Int
  r : List Ins
structure RtInv (ks : List Int) (n : Int) (l : List Int) (p0 : Int) (m : Nat) (x : RtS) : Prop where
  hm : m = x.i.toNat
  i0 : 0 ≤ x.i
  i5 : x.i ≤ 5
  src : SrcOK l x.p x.q
  hp : p0 ≤ x.p ∧ x.p ≤ p0 + 2100 * (5 - x.i)
  made : Made ks n e0 3 2 40 x.r
def RtStep (ks : List Int) (n : Int) (l : List Int) (x y : RtS) : Prop := 0 < x.i ∧ ∃ s, s.length ≤ 64 ∧ TT n_spec_l00Src_statement [.one (.ptrB 0 0), .one (.sl tyInt ks), eI n, eI 2] [srcO l x.p x.q] (.one (.row 1)) [srcO l y.p y.q, rwI s] ∧
  ((x.r.length + s.length ≤ 40 ∧ y.i = x.i - 1 ∧ y.r = x.r ++ s) ∨ (40 < x.r.length + s.length ∧ y.i = 0 ∧ y.r = x.r))
def RtDone (x : RtS) : Prop := x.i = 0
theorem rt_go (ks : List Int) (n : Int) (hk : kindsOK ks = true) (hn : 0 ≤ n ∧ n ≤ 6) (l : List Int) (p0 : Int) (hp0 : p0 ≤ 700000) : ∀ m x, RtInv ks n l p0 m x → RtDone x ∨ ∃ m' y, m' < m ∧ RtInv ks n l p0 m' y ∧ RtStep ks n l x y := by
  rintro m ⟨i, p, q, r⟩ ⟨h1, h2, h3, h4, h5, h6⟩
  simp only at h1 h2 h3 h4 h5 h6
  by_cases hd : i = 0
  · exact .inl hd
  obtain ⟨s, p1, q1, ms, ds, ss, ts⟩ := stm2 ks n hk hn l p q h4 (by omega)
  have hsl := ms.len
  by_cases hc : r.length + s.length ≤ 40
  · refine .inr ⟨(i - 1).toNat, ⟨i - 1, p1, q1, r ++ s⟩, by omega, ⟨rfl, by show 0 ≤ i - 1; omega, by show i - 1 ≤ 5; omega, ss, by show p0 ≤ p1 ∧ p1 ≤ p0 + 2100 * (5 - (i - 1)); omega, ?_⟩, by show 0 < i; omega, s, hsl, ts, .inl ⟨hc, rfl, rfl⟩⟩
    have := h6.app (h := 3) (d := 2) ms (by omega) (by decide) (by omega) (by omega)
    rw [app_e0] at this
    exact ⟨this.runs, this.ok, by rw [List.length_append]; exact hc⟩
  · exact .inr ⟨0, ⟨0, p1, q1, r⟩, by omega, ⟨rfl, by show (0 : Int) ≤ 0; omega, by show (0 : Int) ≤ 5; omega, ss, by show p0 ≤ p1 ∧ p1 ≤ p0 + 2100 * (5 - 0); omega, h6⟩, by show 0 < i; omega, s, hsl, ts, .inr ⟨by show 40 < r.length + s.length; omega, rfl, rfl⟩⟩
theorem c_right (ks : List Int) (n : Int) (hk : kindsOK ks = true) (hn : 0 ≤ n ∧ n ≤ 6) (l : List Int) (p q : Int) (hs : SrcOK l p q) (hp : p ≤ 600000) :
    ∃ (r : List Ins) (p' q' : Int), (codeOK r = true ∧ verM ks n r = (0, 0)) ∧ (p ≤ p' ∧ p' ≤ p + 11000) ∧ SrcOK l p' q' ∧ TT n_spec_l00Src_right [.one (.ptrB 0 0), .one (.sl tyInt ks), eI n] [srcO l p q] (.one (.row 1)) [srcO l p' q', rwI r] := by
  obtain ⟨v, p1, q1, v1, v2, v3, v4⟩ := c_next 5 l p q hs (by omega)
  have i0 : RtInv ks n l p1 (1 + v).toNat ⟨1 + v, p1, q1, []⟩ := ⟨rfl, by show 0 ≤ 1 + v; omega, by show 1 + v ≤ 5; omega, v3, by show p1 ≤ p1 ∧ p1 ≤ p1 + 2100 * (5 - (1 + v)); omega, Made.nil.mono (by omega) (by omega) (by omega)⟩
  obtain ⟨fin, hrun⟩ := Runs.go (rt_go ks n hk hn l p1 (by omega)) (1 + v).toNat _ i0
  obtain ⟨hdone, m0, hinv⟩ := hrun.fin
  have hfi : fin.i = 0 := hdone
  have hpf := hinv.hp
  rw [hfi] at hpf
  refine ⟨fin.r, fin.p, fin.q, hinv.made.code (by omega) (by omega) (by omega), by omega, hinv.src, r_spec_l00Src_right ks n l p q ⟨_, _, _, _, v4,
    fun m i l' p' q' r => l = l' ∧ Runs (RtInv ks n l p1) (RtStep ks n l) RtDone m ⟨i, p', q', r⟩ fin, ⟨_, rfl, rfl, by rw [w64 (x := 1 + v) (by omega)]; exact hrun⟩, ?_⟩⟩
  rintro m i l' p' q' r ⟨rfl, hrun⟩
  cases hrun with
  | done h1 h2 =>
    have h2 : i = 0 := h2
    exact ifP_f (by omega) ⟨rfl, rfl⟩
  | @step _ _ m' y _ h1 hlt hst hrest =>
    obtain ⟨hc, s, hsl, ts, hor⟩ := hst
    have hc : i > 0 := hc
    have hi5 : i ≤ 5 := h1.i5
    have hrl : r.length ≤ 40 := h1.made.len
    obtain ⟨yi, yp, yq, yr⟩ := y
    simp only at ts hor
    refine ifP_t hc ⟨_, _, _, _, ts, ?_⟩
    rw [w64 (x := (r.length : Int) + s.length) (by omega), w64 (x := i - 1) (by omega)]
    rcases hor with ⟨g1, rfl, rfl⟩ | ⟨g1, rfl, rfl⟩
    · exact ifP_f (by omega) ⟨by omega, m', hlt, rfl, rfl, hrest⟩
    · refine ifP_t (by omega) ?_
      cases hrest with
      | done _ _ => exact ⟨rfl, rfl⟩
      | step _ _ hst2 _ => exact absurd hst2.1 (by show ¬ (0 : Int) < 0; omega)
theorem c_RightCode (l : List Int) (ks : List Int) (n : Int) (hk : kindsOK ks = true) (hn : 0 ≤ n ∧ n ≤ 6) (hl : l.length ≤ 1048576) (hb : ∀ n ∈ l, 0 ≤ n ∧ n ≤ 255) :
    ∃ r, (codeOK r = true ∧ verM ks n r = (0, 0)) ∧ TT n_spec_RightCode [.one (.sl u8s l), .one (.sl tyInt ks), eI n] [] (.one (.row 0)) [rwI r] := by
  obtain ⟨q0, s1, s2⟩ := c_source l hl hb
  obtain ⟨r, p1, q1, a1, a2, a3, a4⟩ := c_right ks n hk hn l 0 q0 s1 (by omega)
  exact ⟨r, a1, r_spec_RightCode l ks n ⟨_, _, _, s2, _, _, _, _, a4, rfl, rfl⟩⟩

/-! ### kinds -/
structure KdS where
  i : Int
  p : Int
  q : Int
  r : List Int
structure KdInv (l : List Int) (p0 : Int) (m : Nat) (x : KdS) : Prop where
  hm : m = x.i.toNat
  i0 : 0 ≤ x.i
  i4 : x.i + x.r.length ≤ 4
  src : SrcOK l x.p x.q
  hp : p0 ≤ x.p ∧ x.p ≤ p0 + 3 * x.r.length
  ok : ∀ k ∈ x.r, isKind k = true
def KdStep (l : List Int) (x y : KdS) : Prop := 0 < x.i ∧ ∃ v, (0 ≤ v ∧ v ≤ 3) ∧ TT n_spec_l00Src_next [.one (.ptrB 0 0), eI 4] [srcO l x.p x.q] (eI v) [srcO l y.p y.q] ∧ y.i = x.i - 1 ∧ y.r = x.r ++ [1 + v]
def KdDone (x : KdS) : Prop := x.i = 0
theorem kd_go (l : List Int) (p0 : Int) (hp0 : p0 ≤ 1000000) : ∀ m x, KdInv l p0 m x → KdDone x ∨ ∃ m' y, m' < m ∧ KdInv l p0 m' y ∧ KdStep l x y := by
  rintro m ⟨i, p, q, r⟩ ⟨h1, h2, h3, h4, h5, h6⟩
  simp only at h1 h2 h3 h4 h5 h6
  by_cases hd : i = 0
  · exact .inl hd
  obtain ⟨v, p1, q1, v1, v2, v3, v4⟩ := c_next 4 l p q h4 (by omega)
  refine .inr ⟨(i - 1).toNat, ⟨i - 1, p1, q1, r ++ [1 + v]⟩, by omega, ⟨rfl, by show 0 ≤ i - 1; omega, by show i - 1 + ((r ++ [1 + v]).length : Int) ≤ 4; rw [List.length_append, List.length_singleton]; omega, v3, by show p0 ≤ p1 ∧ p1 ≤ p0 + 3 * ((r ++ [1 + v]).length : Int); rw [List.length_append, List.length_singleton]; omega, fun k hk => ?_⟩, by show 0 < i; omega, v, by omega, v4, rfl, rfl⟩
  rcases List.mem_append.1 hk with hk | hk
  · exact h6 k hk
  · rw [List.mem_singleton] at hk
    subst hk
    rw [isKind, within_iff]; omega
theorem c_kinds (l : List Int) (p q : Int) (hs : SrcOK l p q) (hp : p ≤ 900000) : ∃ (ks : List Int) (p' q' : Int), (kindsOK ks = true ∧ ks.length ≤ 4) ∧ (p ≤ p' ∧ p' ≤ p + 20) ∧ SrcOK l p' q' ∧ TT n_spec_l00Src_kinds [.one (.ptrB 0 0)] [srcO l p q] (.one (.row 1)) [srcO l p' q', .row t_int tyInt ks] := by
  obtain ⟨v, p1, q1, v1, v2, v3, v4⟩ := c_next 5 l p q hs (by omega)
  have i0 : KdInv l p1 v.toNat ⟨v, p1, q1, []⟩ := ⟨rfl, by show 0 ≤ v; omega, by show v + 0 ≤ 4; omega, v3, by show p1 ≤ p1 ∧ p1 ≤ p1 + 3 * 0; omega, fun k hk => by cases hk⟩
  obtain ⟨fin, hrun⟩ := Runs.go (kd_go l p1 (by omega)) v.toNat _ i0
  obtain ⟨hdone, m0, hinv⟩ := hrun.fin
  have hfi : fin.i = 0 := hdone
  have hpf := hinv.hp
  have h4 := hinv.i4
  refine ⟨fin.r, fin.p, fin.q, ⟨?_, by omega⟩, by omega, hinv.src, r_spec_l00Src_kinds l p q ⟨_, _, _, _, v4, fun m i l' p' q' r => l = l' ∧ Runs (KdInv l p1) (KdStep l) KdDone m ⟨i, p', q', r⟩ fin, ⟨_, rfl, hrun⟩, ?_⟩⟩
  · simp only [kindsOK, Bool.and_eq_true, decide_eq_true_eq, List.all_eq_true]
    exact ⟨by omega, hinv.ok⟩
  rintro m i l' p' q' r ⟨rfl, hrun⟩
  cases hrun with
  | done h1 h2 =>
    have h2 : i = 0 := h2
    exact ifP_f (by omega) ⟨rfl, rfl⟩
  | @step _ _ m' y _ h1 hlt hst hrest =>
    obtain ⟨hc, w, w1, w2, w3, w4⟩ := hst
    have hc : i > 0 := hc
    have hi4 : i + (r.length : Int) ≤ 4 := h1.i4
    obtain ⟨yi, yp, yq, yr⟩ := y
    simp only at w2 w3 w4
    subst w3 w4
    refine ifP_t hc ⟨_, _, _, _, w2, ?_⟩
    rw [w64 (x := 1 + w) (by omega), w64 (x := i - 1) (by omega)]
    exact ⟨by simp only [List.length_cons, List.length_nil]; omega, m', hlt, rfl, hrest⟩
theorem c_KindsDrawn (l : List Int) (hl : l.length ≤ 1048576) (hb : ∀ n ∈ l, 0 ≤ n ∧ n ≤ 255) : ∃ ks, (kindsOK ks = true ∧ ks.length ≤ 4) ∧ TT n_spec_KindsDrawn [.one (.sl u8s l)] [] (.one (.row 0)) [.row t_int tyInt ks] := by
  obtain ⟨q0, s1, s2⟩ := c_source l hl hb
  obtain ⟨ks, p1, q1, a1, a2, a3, a4⟩ := c_kinds l 0 q0 s1 (by omega)
  exact ⟨ks, a1, r_spec_KindsDrawn l ⟨_, _, _, s2, _, _, _, _, a4, rfl, rfl⟩⟩
end Go.Ry
