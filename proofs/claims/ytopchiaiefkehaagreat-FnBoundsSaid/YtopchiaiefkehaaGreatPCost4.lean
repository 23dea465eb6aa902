/- Texts Cost1, Cost2, Cost3, Cost4, one behind the other. No condition. -/
import Derived.Test.YtopchiaiefkehaaGreatPVer6
set_option linter.unusedVariables false
set_option linter.unusedSimpArgs false
namespace Go.Ry
open Go.Proofs

abbrev Su := Int × Int × Int × Int × Int × Unit
@[reducible] def tSu : Ty := .pair (.int .i64) (.pair (.int .i64) (.pair (.int .i64) (.pair (.int .i64) (.pair (.int .i64) .unit))))
@[reducible] def dSu : Su := ((0 : Int), ((0 : Int), ((0 : Int), ((0 : Int), ((0 : Int), ())))))
@[reducible] def suE (a : Su) : Ent := .agg [cI a.1, cI a.2.1, cI a.2.2.1, cI a.2.2.2.1, cI a.2.2.2.2.1]
def okN (x : Int) : Prop := -1 ≤ x ∧ x ≤ 2147483647
structure okS (a : Su) : Prop where
  t : 0 ≤ a.1 ∧ a.1 ≤ 2147483647
  n : okN a.2.1
  h : okN a.2.2.1
  l : okN a.2.2.2.1
  i : okN a.2.2.2.2.1
def plus (a b : Int) : Int := if a = -1 ∨ b = -1 then -1 else if 2147483647 < a + b then 2147483647 else a + b
theorem plus_ok {a b : Int} (ha : okN a) (hb : okN b) : okN (plus a b) := by
  unfold plus okN at *
  split
  · omega
  · split <;> omega
theorem plus_t {a b : Int} (ha : 0 ≤ a ∧ a ≤ 2147483647) (hb : 0 ≤ b ∧ b ≤ 2147483647) : 0 ≤ plus a b ∧ plus a b ≤ 2147483647 := by
  unfold plus
  split
  · omega
  · split <;> omega
theorem max_ok {a b : Int} (ha : okN a) (hb : okN b) : okN (max a b) := by unfold okN at *; omega
theorem plus_assoc {a b c : Int} (ha : okN a) (hb : okN b) (hc : okN c) : plus (plus a b) c = plus a (plus b c) := by
  unfold plus okN at *
  (repeat' split) <;> omega
theorem plus_max {a b c : Int} (ha : okN a) (hb : okN b) (hc : okN c) : plus a (max b c) = max (plus a b) (plus a c) := by
  unfold plus okN at *
  (repeat' split) <;> omega
theorem max_plus {a b c : Int} (ha : okN a) (hb : okN b) (hc : okN c) : plus (max a b) c = max (plus a c) (plus b c) := by
  unfold plus okN at *
  (repeat' split) <;> omega
theorem mx (x y : Int) : (if y > x then y else x) = max x y := by rw [Int.max_def]; split <;> split <;> omega
theorem c_impl_plus (a b : Int) (ha : okN a) (hb : okN b) : TT n_impl_plus [eI a, eI b] [] (eI (plus a b)) [] := by
  unfold okN at ha hb
  refine r_impl_plus a b (ifE (fun h => ?_) (fun h => ifE (fun h2 => ?_) (fun h2 => ?_)))
  · exact ⟨by simp [plus, h], rfl⟩
  · exact ⟨by simp [plus, h2], rfl⟩
  · rw [w64 (by omega)]
    exact ⟨by simp [plus, h, h2], rfl⟩
theorem c_spec_l05Plus (a b : Int) (ha : okN a) (hb : okN b) : TT n_spec_l05Plus [eI a, eI b] [] (eI (plus a b)) [] := by
  unfold okN at ha hb
  refine r_spec_l05Plus a b (ifP (fun h => ?_) (fun h => ifP (fun h2 => ?_) (fun h2 => ?_)))
  · exact ⟨by simp [plus, show a = -1 by omega], rfl⟩
  · exact ⟨by simp [plus, show b = -1 by omega], rfl⟩
  · rw [w64 (by omega)]
    exact ⟨by simp [plus, show ¬ a = -1 by omega, show ¬ b = -1 by omega], rfl⟩
def one (n : Int) (cut : Bool) : Su := if cut = true then (n, (-1, (n, (0, (-1, ()))))) else (n, (n, (-1, (-1, (-1, ())))))
theorem one_ok {n : Int} {b : Bool} (h : 0 ≤ n ∧ n ≤ 2147483647) : okS (one n b) := by
  cases b <;> refine ⟨?_, ?_, ?_, ?_, ?_⟩ <;> simp [one, okN] <;> omega
theorem c_impl_oneCost (n : Int) (b : Bool) : TT n_impl_oneCost [eI n, eB b] [] (suE (one n b)) [] :=
  r_impl_oneCost n b (ifB_cases (fun h => by subst h; exact ⟨rfl, rfl⟩) (fun h => by subst h; exact ⟨rfl, rfl⟩))
theorem c_spec_l05One (n : Int) (b : Bool) : TT n_spec_l05One [eI n, eB b] [] (suE (one n b)) [] :=
  r_spec_l05One n b (ifB_cases (fun h => by subst h; exact ⟨rfl, rfl⟩) (fun h => by subst h; exact ⟨rfl, rfl⟩))
/-- One behind the other. -/
def beh (a b : Su) : Su :=
  (plus a.1 b.1, (plus a.2.1 b.2.1, (max a.2.2.1 (plus a.2.1 b.2.2.1), (max b.2.2.2.1 (plus a.2.2.2.1 b.2.1), (max (max a.2.2.2.2.1 b.2.2.2.2.1) (plus a.2.2.2.1 b.2.2.1), ())))))
theorem beh_ok {a b : Su} (ha : okS a) (hb : okS b) : okS (beh a b) :=
  ⟨plus_t ha.t hb.t, plus_ok ha.n hb.n, max_ok ha.h (plus_ok ha.n hb.h), max_ok hb.l (plus_ok ha.l hb.n), max_ok (max_ok ha.i hb.i) (plus_ok ha.l hb.h)⟩
theorem okS.t' {a : Su} (h : okS a) : okN a.1 := ⟨by have := h.t.1; omega, h.t.2⟩
theorem beh_assoc {a b c : Su} (ha : okS a) (hb : okS b) (hc : okS c) : beh (beh a b) c = beh a (beh b c) := by
  unfold beh
  dsimp only
  rw [plus_assoc ha.t' hb.t' hc.t', plus_assoc ha.n hb.n hc.n, plus_assoc ha.n hb.n hc.h, max_plus hb.l (plus_ok ha.l hb.n) hc.n, plus_assoc ha.l hb.n hc.n,
    max_plus hb.l (plus_ok ha.l hb.n) hc.h, plus_assoc ha.l hb.n hc.h, plus_max ha.n hb.h (plus_ok hb.n hc.h), plus_max ha.l hb.h (plus_ok hb.n hc.h)]
  refine Prod.ext rfl (Prod.ext rfl (Prod.ext ?_ (Prod.ext ?_ (Prod.ext ?_ rfl)))) <;> dsimp only <;> omega
theorem c_spec_l05Behind (a b : Su) (ha : okS a) (hb : okS b) : TT n_spec_l05Behind [suE a, suE b] [] (suE (beh a b)) [] := by
  refine r_spec_l05Behind _ _ _ _ _ _ _ _ _ _ ⟨_, c_spec_l05Plus _ _ ha.t' hb.t', _, c_spec_l05Plus _ _ ha.n hb.n, _, c_spec_l05Plus _ _ ha.n hb.h, _, c_spec_l05Plus _ _ ha.l hb.n, _, c_spec_l05Plus _ _ ha.l hb.h, ?_⟩
  exact ⟨by simp only [beh, mx], rfl⟩
def allOk (l : List Su) : Prop := ∀ x ∈ l, okS x
theorem allOk.at {l : List Su} (h : allOk l) {i : Nat} (hi : i < l.length) : okS (l.getD i ((0 : Int), ((0 : Int), ((0 : Int), ((0 : Int), ((0 : Int), ())))))) := by
  rw [List.getD_eq_getElem?_getD, List.getElem?_eq_getElem hi]
  exact h _ (List.getElem_mem hi)
theorem foldl_ok {l : List Su} : ∀ {a : Su}, okS a → allOk l → okS (l.foldl beh a) := by
  induction l with
  | nil => intro a h _; exact h
  | cons x l ih => intro a h hl; exact ih (beh_ok h (hl x (by simp))) fun y hy => hl y (by simp [hy])
theorem c_impl_behind (a : Su) (l : List Su) (ha : okS a) (hl : allOk l) (hn : l.length ≤ 1048576) : TT n_impl_behind [suE a, .one (.sl tSu l)] [] (suE (l.foldl beh a)) [] := by
  refine r_impl_behind _ _ _ _ _ l ⟨fun m i t n h ta ii => 0 ≤ i ∧ i ≤ l.length ∧ m = (l.length - i).toNat ∧ ∃ b : Su, okS b ∧ b = (t, (n, (h, (ta, (ii, ()))))) ∧ (l.drop i.toNat).foldl beh b = l.foldl beh a,
    ⟨_, rfl, rfl, by omega, by omega, rfl, a, ha, rfl, rfl⟩, ?_⟩
  rintro m i t n h ta ii ⟨h0, h1, rfl, b, hb, rfl, hv⟩
  refine ifP (fun hlt => ?_) (fun hge => ?_)
  · have hx := hl.at (i := i.toNat) (by omega)
    rw [drop_getD (by omega) ((0 : Int), ((0 : Int), ((0 : Int), ((0 : Int), ((0 : Int), ()))))), List.foldl_cons] at hv
    revert hv hx
    generalize l.getD i.toNat ((0 : Int), ((0 : Int), ((0 : Int), ((0 : Int), ((0 : Int), ()))))) = x
    intro hv hx
    refine ⟨⟨h0, hlt⟩, _, c_impl_plus _ _ hb.t' hx.t', _, c_impl_plus _ _ hb.n hx.n, _, c_impl_plus _ _ hb.n hx.h, _, c_impl_plus _ _ hb.l hx.n, _, c_impl_plus _ _ hb.l hx.h, ?_⟩
    rw [mx, mx, mx, mx, w64 (by omega)]
    exact ⟨_, by omega, rfl, rfl, by omega, by omega, rfl, _, beh_ok hb hx, rfl, by rw [toNat_succ h0]; exact hv⟩
  · rw [List.drop_eq_nil_of_le (by omega)] at hv
    rw [← hv]; exact ⟨rfl, rfl⟩
theorem c_impl_beh (a b : Su) (ha : okS a) (hb : okS b) : TT n_impl_behind [suE a, .one (.sl tSu [b])] [] (suE (beh a b)) [] :=
  c_impl_behind a [b] ha (fun x hx => by simp at hx; exact hx ▸ hb) (by simp)
def eith (a b : Su) : Su := (max a.1 b.1, (max a.2.1 b.2.1, (max a.2.2.1 b.2.2.1, (max a.2.2.2.1 b.2.2.2.1, (max a.2.2.2.2.1 b.2.2.2.2.1, ())))))
theorem eith_ok {a b : Su} (ha : okS a) (hb : okS b) : okS (eith a b) :=
  ⟨by have := ha.t; have := hb.t; simp only [eith]; omega, max_ok ha.n hb.n, max_ok ha.h hb.h, max_ok ha.l hb.l, max_ok ha.i hb.i⟩
theorem c_impl_either (a b : Su) : TT n_impl_either [suE a, suE b] [] (suE (eith a b)) [] := by
  refine r_impl_either _ _ _ _ _ _ _ _ _ _ ?_
  unfold v_impl_either
  exact ⟨by simp only [eith, mx], rfl⟩
theorem c_spec_l05Either (a b : Su) : TT n_spec_l05Either [suE a, suE b] [] (suE (eith a b)) [] := by
  refine r_spec_l05Either _ _ _ _ _ _ _ _ _ _ ?_
  unfold v_spec_l05Either
  exact ⟨by simp only [eith, mx], rfl⟩
def one0 : Su := one 0 false
def tick : Su := one 1 false
theorem one0_ok : okS one0 := one_ok (by omega)
theorem tick_ok : okS tick := one_ok (by omega)
def rep (a : Su) : Nat → Su
  | 0 => one0
  | n + 1 => beh (rep a n) a
theorem rep_ok {a : Su} (ha : okS a) : ∀ n, okS (rep a n)
  | 0 => one0_ok
  | n + 1 => beh_ok (rep_ok ha n) ha
theorem c_impl_repeated (a : Su) (n : Int) (ha : okS a) (hn : 0 ≤ n ∧ n ≤ 1048576) : TT n_impl_repeated [suE a, eI n] [] (suE (rep a n.toNat)) [] := by
  refine r_impl_repeated _ _ _ _ _ n ⟨_, _, _, _, _, c_impl_oneCost 0 false, fun m i t n' h ta ii => 0 ≤ i ∧ i ≤ n ∧ m = (n - i).toNat ∧ (t, (n', (h, (ta, (ii, ()))))) = rep a i.toNat, ⟨_, rfl, rfl, by omega, by omega, rfl, rfl⟩, ?_⟩
  rintro m i t n' h ta ii ⟨h0, h1, rfl, hv⟩
  have hk : okS (t, (n', (h, (ta, (ii, ()))))) := hv ▸ rep_ok ha _
  refine ifP (fun hlt => ⟨_, _, _, _, _, c_impl_beh (t, (n', (h, (ta, (ii, ()))))) a hk ha, ?_⟩) (fun hge => ?_)
  · rw [w64 (by omega)]
    exact ⟨_, by omega, rfl, rfl, by omega, by omega, rfl, by rw [toNat_succ h0, rep, ← hv]⟩
  · rw [show n.toNat = i.toNat by omega, ← hv]; exact ⟨rfl, rfl⟩
theorem c_spec_l05Times (a : Su) (n : Int) (ha : okS a) (hn : 0 ≤ n ∧ n ≤ 1048576) : TT n_spec_l05Times [suE a, eI n] [] (suE (rep a n.toNat)) [] := by
  refine r_spec_l05Times _ _ _ _ _ n ⟨_, _, _, _, _, c_spec_l05One 0 false, fun m i t n' h ta ii => 0 ≤ i ∧ i ≤ n ∧ m = (n - i).toNat ∧ (t, (n', (h, (ta, (ii, ()))))) = rep a i.toNat, ⟨_, rfl, rfl, by omega, by omega, rfl, rfl⟩, ?_⟩
  rintro m i t n' h ta ii ⟨h0, h1, rfl, hv⟩
  have hk : okS (t, (n', (h, (ta, (ii, ()))))) := hv ▸ rep_ok ha _
  refine ifP (fun hlt => ⟨_, _, _, _, _, c_spec_l05Behind (t, (n', (h, (ta, (ii, ()))))) a hk ha, ?_⟩) (fun hge => ?_)
  · rw [w64 (by omega)]
    exact ⟨_, by omega, rfl, rfl, by omega, by omega, rfl, by rw [toNat_succ h0, rep, ← hv]⟩
  · rw [show n.toNat = i.toNat by omega, ← hv]; exact ⟨rfl, rfl⟩
def jobM (a : Su) : Su := beh (beh tick a) tick
theorem jobM_ok {a : Su} (ha : okS a) : okS (jobM a) := beh_ok (beh_ok tick_ok ha) tick_ok
theorem c_impl_jobCost (a : Su) (ha : okS a) : TT n_impl_jobCost [suE a] [] (suE (jobM a)) [] :=
  r_impl_jobCost _ _ _ _ _ ⟨_, _, _, _, _, c_impl_oneCost 1 false, _, _, _, _, _, c_impl_behind tick [a, tick] tick_ok (fun x hx => by
    simp at hx
    rcases hx with rfl | rfl
    · exact ha
    · exact tick_ok) (by simp), rfl, rfl⟩
theorem c_spec_l09Job (a : Su) (ha : okS a) : TT n_spec_l09Job [suE a] [] (suE (jobM a)) [] :=
  r_spec_l09Job _ _ _ _ _ ⟨_, _, _, _, _, c_spec_l05One 1 false, _, _, _, _, _, c_spec_l05Behind tick a tick_ok ha, _, _, _, _, _, c_spec_l05One 1 false, _, _, _, _, _, c_spec_l05Behind (beh tick a) tick (beh_ok tick_ok ha) tick_ok, rfl, rfl⟩
end Go.Ry

set_option linter.unusedVariables false
set_option linter.unusedSimpArgs false
namespace Go.Ry
open Go.Proofs

def matchL : List Ins → Nat → Nat → Nat → Nat × Nat × Bool
  | [], _, _, _ => (0, 0, false)
  | x :: l, d, i, oth => if x.1 = 21 ∨ x.1 = 24 then matchL l (d + 1) (i + 1) oth
    else if x.1 = 22 then matchL l d (i + 1) (if d = 0 then i else oth)
    else if x.1 = 23 then (if d = 0 then (oth, i, true) else matchL l (d - 1) (i + 1) oth)
    else matchL l d (i + 1) oth
theorem matchL_cons {x : Ins} {l : List Ins} {d i oth : Nat} : matchL (x :: l) d i oth = if x.1 = 21 ∨ x.1 = 24 then matchL l (d + 1) (i + 1) oth
    else if x.1 = 22 then matchL l d (i + 1) (if d = 0 then i else oth)
    else if x.1 = 23 then (if d = 0 then (oth, i, true) else matchL l (d - 1) (i + 1) oth)
    else matchL l d (i + 1) oth := rfl
def matchM (code : List Ins) (i : Nat) : Nat × Nat × Bool := matchL (code.drop (i + 1)) 0 (i + 1) 0
theorem matchL_append {t : List Ins} : ∀ {l : List Ins} {d i oth o e : Nat}, matchL l d i oth = (o, e, true) → matchL (l ++ t) d i oth = (o, e, true)
  | [], _, _, _, _, _, h => by simp [matchL] at h
  | x :: l, d, i, oth, o, e, h => by
    rw [List.cons_append, matchL_cons]
    rw [matchL_cons] at h
    split at h
    · rename_i h1; rw [if_pos h1]; exact matchL_append h
    split at h
    · rename_i h1 h2; rw [if_neg h1, if_pos h2]; exact matchL_append h
    split at h
    · rename_i h1 h2 h3
      rw [if_neg h1, if_neg h2, if_pos h3]
      split at h
      · rename_i h4; rw [if_pos h4]; exact h
      · rename_i h4; rw [if_neg h4]; exact matchL_append h
    · rename_i h1 h2 h3
      rw [if_neg h1, if_neg h2, if_neg h3]; exact matchL_append h
theorem matchL_spec : ∀ {l : List Ins} {d e i oth : Nat}, bal l (d + 1 + e) → ∃ (a b : List Ins) (x : Ins) (o : Nat), l = a ++ x :: b ∧ x.1 = 23 ∧ bal a d ∧ bal b e ∧ matchL l d i oth = (o, i + a.length, true) ∧
    (o = oth ∨ ∃ (a1 a2 : List Ins) (y : Ins), a = a1 ++ y :: a2 ∧ o = i + a1.length ∧ y.1 = 22 ∧ bal a1 d ∧ bal a2 0)
  | [], d, e, i, oth, h => by
    have : d + 1 + e = 0 := h
    omega
  | x :: l, d, e, i, oth, h => by
    rw [bal_cons] at h
    rw [matchL_cons]
    split at h
    · rename_i h1
      rw [if_pos h1]
      obtain ⟨a, b, y, o, rfl, k2, k3, k4, k5, k6⟩ := matchL_spec (d := d + 1) (e := e) (i := i + 1) (oth := oth) (l := l) (by rw [show d + 1 + 1 + e = d + 1 + e + 1 by omega]; exact h)
      refine ⟨x :: a, b, y, o, rfl, k2, by rw [bal_cons, if_pos h1]; exact k3, k4, by rw [k5]; simp; omega, ?_⟩
      rcases k6 with k6 | ⟨a1, a2, z, rfl, rfl, q3, q4, q5⟩
      · exact .inl k6
      · exact .inr ⟨x :: a1, a2, z, rfl, by simp; omega, q3, by rw [bal_cons, if_pos h1]; exact q4, q5⟩
    rename_i h1
    rw [if_neg h1]
    split at h
    · rename_i h3
      rw [if_neg (by omega), if_pos h3]
      obtain ⟨_, h⟩ := h
      by_cases hd : d = 0
      · subst hd
        rw [if_pos rfl]
        refine ⟨[], l, x, oth, rfl, h3, rfl, by rw [show 0 + 1 + e - 1 = e by omega] at h; exact h, by simp, .inl rfl⟩
      · rw [if_neg hd]
        obtain ⟨a, b, y, o, rfl, k2, k3, k4, k5, k6⟩ := matchL_spec (d := d - 1) (e := e) (i := i + 1) (oth := oth) (l := l) (by rw [show d - 1 + 1 + e = d + 1 + e - 1 by omega]; exact h)
        refine ⟨x :: a, b, y, o, rfl, k2, by rw [bal_cons, if_neg h1, if_pos h3]; exact ⟨by omega, k3⟩, k4, by rw [k5]; simp; omega, ?_⟩
        rcases k6 with k6 | ⟨a1, a2, z, rfl, rfl, q3, q4, q5⟩
        · exact .inl k6
        · exact .inr ⟨x :: a1, a2, z, rfl, by simp; omega, q3, by rw [bal_cons, if_neg h1, if_pos h3]; exact ⟨by omega, q4⟩, q5⟩
    · rename_i h3
      by_cases h2 : x.1 = 22
      · rw [if_pos h2]
        obtain ⟨a, b, y, o, rfl, k2, k3, k4, k5, k6⟩ := matchL_spec (d := d) (e := e) (i := i + 1) (oth := if d = 0 then i else oth) (l := l) h
        refine ⟨x :: a, b, y, o, rfl, k2, by rw [bal_cons, if_neg h1, if_neg h3]; exact k3, k4, by rw [k5]; simp; omega, ?_⟩
        rcases k6 with k6 | ⟨a1, a2, z, rfl, rfl, q3, q4, q5⟩
        · by_cases hd : d = 0
          · rw [if_pos hd] at k6
            exact .inr ⟨[], a, x, rfl, by simpa using k6, h2, hd, hd ▸ k3⟩
          · rw [if_neg hd] at k6
            exact .inl k6
        · exact .inr ⟨x :: a1, a2, z, rfl, by simp; omega, q3, by rw [bal_cons, if_neg h1, if_neg h3]; exact q4, q5⟩
      · rw [if_neg h2, if_neg h3]
        obtain ⟨a, b, y, o, rfl, k2, k3, k4, k5, k6⟩ := matchL_spec (d := d) (e := e) (i := i + 1) (oth := oth) (l := l) h
        refine ⟨x :: a, b, y, o, rfl, k2, by rw [bal_cons, if_neg h1, if_neg h3]; exact k3, k4, by rw [k5]; simp; omega, ?_⟩
        rcases k6 with k6 | ⟨a1, a2, z, rfl, rfl, q3, q4, q5⟩
        · exact .inl k6
        · exact .inr ⟨x :: a1, a2, z, rfl, by simp; omega, q3, by rw [bal_cons, if_neg h1, if_neg h3]; exact q4, q5⟩

/-- A part of a code all of whose branches and loops are closed in it. -/
structure Seg (code : List Ins) (i to : Nat) : Prop where
  le : i ≤ to
  len : to ≤ code.length
  bal : bal ((code.drop i).take (to - i)) 0
abbrev insAt (code : List Ins) (i : Nat) : Ins := code.getD i ((0 : Int), ((0 : Int), ()))
theorem seg_cons {code : List Ins} {i to : Nat} (h : i < to) (hl : to ≤ code.length) : (code.drop i).take (to - i) = insAt code i :: (code.drop (i + 1)).take (to - (i + 1)) := by
  rw [drop_getD (by omega) ((0 : Int), ((0 : Int), ())), show to - i = to - (i + 1) + 1 by omega, List.take_succ_cons]
theorem Seg.step {code : List Ins} {i to : Nat} (h : Seg code i to) (hlt : i < to) (h1 : (insAt code i).1 ≠ 21) (h2 : (insAt code i).1 ≠ 24) : Seg code (i + 1) to ∧ (insAt code i).1 ≠ 23 := by
  have hb := h.bal
  rw [seg_cons hlt h.len, bal_cons, if_neg (by omega)] at hb
  split at hb
  · omega
  · rename_i h3; exact ⟨⟨by omega, h.len, hb⟩, h3⟩
/-- What is found at a branch or a loop. -/
structure Met (code : List Ins) (i to o e : Nat) : Prop where
  m : matchM code i = (o, e, true)
  lt : i < e
  hi : e < to
  body : Seg code (i + 1) e
  rest : Seg code (e + 1) to
  oth : o = 0 ∨ (i < o ∧ o < e ∧ Seg code (i + 1) o ∧ Seg code (o + 1) e)
  other : 0 < o → (insAt code o).1 = 22
  fin : (insAt code e).1 = 23
theorem take_drop_part {α : Type} {l a b : List α} {x : α} (i n : Nat) (h : (l.drop i).take n = a ++ x :: b) :
    (l.drop i).take a.length = a ∧ (l.drop (i + a.length + 1)).take (n - (a.length + 1)) = b ∧ a.length < n ∧ l[i + a.length]? = some x := by
  have hlen : a.length + 1 + b.length ≤ n := by
    have := congrArg List.length h
    simp at this; omega
  refine ⟨?_, ?_, by omega, ?_⟩
  · have := congrArg (List.take a.length) h
    rw [List.take_take, Nat.min_eq_left (by omega), List.take_left' rfl] at this
    exact this
  · have := congrArg (List.drop (a.length + 1)) h
    rw [List.drop_take, List.drop_drop] at this
    rw [Nat.add_assoc, this]
    have : a ++ x :: b = (a ++ [x]) ++ b := by simp
    rw [this, List.drop_left' (by simp)]
  · have : ((l.drop i).take n)[a.length]? = (a ++ x :: b)[a.length]? := by rw [h]
    rw [List.getElem?_take_of_lt (by omega), List.getElem?_drop] at this
    rw [this]
    simp
theorem Seg.meet {code : List Ins} {i to : Nat} (h : Seg code i to) (hlt : i < to) (h1 : (insAt code i).1 = 21 ∨ (insAt code i).1 = 24) : ∃ o e, Met code i to o e := by
  have hb := h.bal
  have hl := h.len
  rw [seg_cons hlt h.len, bal_cons, if_pos h1] at hb
  obtain ⟨a, b, x, o, hab, k2, k3, k4, k5, k6⟩ := matchL_spec (d := 0) (e := 0) (i := i + 1) (oth := 0) hb
  obtain ⟨t1, t2, t3, t4⟩ := take_drop_part _ _ hab
  have hm : matchM code i = (o, i + 1 + a.length, true) := by
    unfold matchM
    have e : code.drop (i + 1) = (code.drop (i + 1)).take (to - (i + 1)) ++ (code.drop (i + 1)).drop (to - (i + 1)) := (List.take_append_drop _ _).symm
    rw [e]
    exact matchL_append k5
  have hat : ∀ k y, code[k]? = some y → insAt code k = y := fun k y hk => by unfold insAt; rw [List.getD_eq_getElem?_getD, hk]; rfl
  refine ⟨o, i + 1 + a.length, hm, by omega, by omega, ⟨by omega, by omega, ?_⟩, ⟨by omega, hl, ?_⟩, ?_, ?_, ?_⟩
  · rw [show i + 1 + a.length - (i + 1) = a.length by omega, t1]; exact k3
  · rw [show to - (i + 1 + a.length + 1) = to - (i + 1) - (a.length + 1) by omega, t2]; exact k4
  · rcases k6 with k6 | ⟨a1, a2, z, ha, ho, q3, q4, q5⟩
    · exact .inl k6
    · right
      rw [ha] at t1
      have hal : a.length = a1.length + 1 + a2.length := by rw [ha]; simp; omega
      rw [← ha] at t1
      obtain ⟨u1, u2, u3, u4⟩ := take_drop_part (l := code) (a := a1) (b := a2) (x := z) (i + 1) a.length (by rw [t1, ha])
      subst ho
      refine ⟨by omega, by omega, ⟨by omega, by omega, ?_⟩, ⟨by omega, by omega, ?_⟩⟩
      · rw [show i + 1 + a1.length - (i + 1) = a1.length by omega, u1]; exact q4
      · rw [show i + 1 + a.length - (i + 1 + a1.length + 1) = a.length - (a1.length + 1) by omega, u2]; exact q5
  · intro ho
    rcases k6 with k6 | ⟨a1, a2, z, ha, ho, q3, q4, q5⟩
    · omega
    · have hal : a.length = a1.length + 1 + a2.length := by rw [ha]; simp; omega
      obtain ⟨u1, u2, u3, u4⟩ := take_drop_part (l := code) (a := a1) (b := a2) (x := z) (i + 1) a.length (by rw [t1, ha])
      rw [ho, hat _ _ u4]; exact q3
  · rw [hat _ _ t4]; exact k2

/-! ### the functions -/
@[reducible] def matchE (m : Nat × Nat × Bool) : Ent := .tup [(false, [cI (m.1 : Int)]), (false, [cI (m.2.1 : Int)]), (false, [.bool m.2.2])]
theorem c_spec_l04Match (code : List Ins) (i : Nat) (hl : code.length ≤ 1048576) (hi : i < code.length) : TT n_spec_l04Match [.one (.sl tIns code), eI i] [] (matchE (matchM code i)) [] := by
  refine r_spec_l04Match code i ⟨fun m d o k => ∃ d' o' k' : Nat, d = d' ∧ o = o' ∧ k = k' ∧ k' ≤ code.length ∧ d' ≤ k' ∧ m = code.length - k' ∧ matchL (code.drop k') d' k' o' = matchM code i,
    ⟨_, rfl, 0, 0, i + 1, rfl, rfl, by rw [w64 (by omega)]; rfl, by omega, by omega, rfl, rfl⟩, ?_⟩
  rintro m d o k ⟨d', o', k', rfl, rfl, rfl, hk, hd, rfl, hv⟩
  refine ifP (fun hlt => ⟨by omega, ?_⟩) (fun hge => ?_)
  · have hlt : k' < code.length := by omega
    rw [drop_getD hlt ((0 : Int), ((0 : Int), ())), matchL_cons] at hv
    rw [Int.toNat_natCast]
    revert hv
    generalize code.getD k' ((0 : Int), ((0 : Int), ())) = x
    intro hv
    refine ⟨fun d o k op b => d = d' ∧ o = o' ∧ k = k' ∧ op = x.1 ∧ b = decide (x.1 = 21 ∨ x.1 = 24), ?_, ?_⟩
    · refine ifE (fun h1 => ⟨rfl, rfl, rfl, rfl, rfl, by simp [h1]⟩) (fun h1 => ⟨rfl, rfl, rfl, rfl, rfl, ?_⟩)
      by_cases h2 : x.1 = 24 <;> simp [h1, h2]
    rintro d o k op b ⟨rfl, rfl, rfl, rfl, rfl⟩
    rw [w64 (by omega), w64 (by omega)]
    refine ifP (fun h1 => ?_) (fun h1 => ?_)
    · rw [if_pos h1] at hv
      exact ⟨_, by omega, rfl, d' + 1, o', k' + 1, by omega, rfl, by omega, by omega, by omega, rfl, hv⟩
    rw [if_neg h1] at hv
    refine ifE (fun h2 => ?_) (fun h2 => ?_)
    · rw [if_pos h2] at hv
      refine ifE (fun h3 => ?_) (fun h3 => ?_)
      · rw [if_pos (by omega)] at hv
        exact ⟨_, by omega, rfl, d', k', k' + 1, rfl, rfl, by omega, by omega, by omega, rfl, hv⟩
      · rw [if_neg (by omega)] at hv
        exact ⟨_, by omega, rfl, d', o', k' + 1, rfl, rfl, by omega, by omega, by omega, rfl, hv⟩
    rw [if_neg h2] at hv
    refine ifE (fun h3 => ?_) (fun h3 => ?_)
    · rw [if_pos h3] at hv
      refine ifE (fun h4 => ?_) (fun h4 => ?_)
      · rw [if_pos (by omega)] at hv
        rw [← hv]; exact ⟨rfl, rfl⟩
      · rw [if_neg (by omega)] at hv
        rw [w64 (by omega)]
        exact ⟨_, by omega, rfl, d' - 1, o', k' + 1, by omega, rfl, by omega, by omega, by omega, rfl, hv⟩
    · rw [if_neg h3] at hv
      exact ⟨_, by omega, rfl, d', o', k' + 1, rfl, rfl, by omega, by omega, by omega, rfl, hv⟩
  · rw [List.drop_eq_nil_of_le (by omega)] at hv
    rw [← hv]; exact ⟨rfl, rfl⟩
theorem c_impl_match (code : List Ins) (i : Nat) (hl : code.length ≤ 1048576) (hi : i < code.length) (hop : (insAt code i).1 = 21 ∨ (insAt code i).1 = 24) :
    TT n_impl_match [.one (.sl tIns code), eI i] [] (matchE (matchM code i)) [] := by
  refine r_impl_match code i ⟨fun m d o k => ∃ d' o' k' : Nat, d = d' ∧ o = o' ∧ k = k' ∧ k' ≤ code.length ∧ d' ≤ k' ∧ m = code.length - k' ∧ ((k' = i ∧ d' = 0 ∧ o' = 0) ∨ (0 < d' ∧ matchL (code.drop k') (d' - 1) k' o' = matchM code i)),
    ⟨_, rfl, 0, 0, i, rfl, rfl, rfl, by omega, by omega, rfl, .inl ⟨rfl, rfl, rfl⟩⟩, ?_⟩
  rintro m d o k ⟨d', o', k', rfl, rfl, rfl, hk, hd, rfl, hv⟩
  refine ifP (fun hlt => ⟨by omega, ?_⟩) (fun hge => ?_)
  · have hlt : k' < code.length := by omega
    rw [Int.toNat_natCast]
    rcases hv with ⟨rfl, rfl, rfl⟩ | ⟨hd0, hv⟩
    · refine ⟨fun d o k op b => d = 0 ∧ o = 0 ∧ k = k' ∧ b = true, ?_, ?_⟩
      · refine ifE (fun h1 => ⟨rfl, rfl, rfl, rfl, by simpa using h1⟩) (fun h1 => ⟨rfl, rfl, rfl, rfl, ?_⟩)
        rcases hop with h | h
        · exact absurd h h1
        · simpa using h
      rintro d o k op b ⟨rfl, rfl, rfl, rfl⟩
      rw [w64 (by omega), w64 (by omega)]
      exact ifB_t rfl ⟨_, by omega, rfl, 1, 0, k' + 1, by omega, rfl, by omega, by omega, by omega, rfl, .inr ⟨by omega, rfl⟩⟩
    rw [drop_getD hlt ((0 : Int), ((0 : Int), ())), matchL_cons] at hv
    revert hv
    generalize code.getD k' ((0 : Int), ((0 : Int), ())) = x
    intro hv
    refine ⟨fun d o k op b => d = d' ∧ o = o' ∧ k = k' ∧ op = x.1 ∧ b = decide (x.1 = 21 ∨ x.1 = 24), ?_, ?_⟩
    · refine ifE (fun h1 => ⟨rfl, rfl, rfl, rfl, rfl, by simp [h1]⟩) (fun h1 => ⟨rfl, rfl, rfl, rfl, rfl, ?_⟩)
      by_cases h2 : x.1 = 24 <;> simp [h1, h2]
    rintro d o k op b ⟨rfl, rfl, rfl, rfl, rfl⟩
    rw [w64 (by omega), w64 (by omega)]
    refine ifP (fun h1 => ?_) (fun h1 => ?_)
    · rw [if_pos h1] at hv
      exact ⟨_, by omega, rfl, d' + 1, o', k' + 1, by omega, rfl, by omega, by omega, by omega, rfl, .inr ⟨by omega, by rw [show d' + 1 - 1 = d' - 1 + 1 by omega]; exact hv⟩⟩
    rw [if_neg h1] at hv
    refine ifE (fun h2 => ?_) (fun h2 => ?_)
    · rw [if_pos h2] at hv
      refine ifE (fun h3 => ?_) (fun h3 => ?_)
      · rw [if_pos (by omega)] at hv
        exact ⟨_, by omega, rfl, d', k', k' + 1, rfl, rfl, by omega, by omega, by omega, rfl, .inr ⟨hd0, hv⟩⟩
      · rw [if_neg (by omega)] at hv
        exact ⟨_, by omega, rfl, d', o', k' + 1, rfl, rfl, by omega, by omega, by omega, rfl, .inr ⟨hd0, hv⟩⟩
    rw [if_neg h2] at hv
    refine ifE (fun h3 => ?_) (fun h3 => ?_)
    · rw [if_pos h3] at hv
      rw [w64 (by omega)]
      refine ifE (fun h4 => ?_) (fun h4 => ?_)
      · rw [if_pos (by omega)] at hv
        rw [← hv]; exact ⟨rfl, rfl⟩
      · rw [if_neg (by omega)] at hv
        exact ⟨_, by omega, rfl, d' - 1, o', k' + 1, by omega, rfl, by omega, by omega, by omega, rfl, .inr ⟨by omega, hv⟩⟩
    · rw [if_neg h3] at hv
      exact ⟨_, by omega, rfl, d', o', k' + 1, rfl, rfl, by omega, by omega, by omega, rfl, .inr ⟨hd0, hv⟩⟩
  · rcases hv with ⟨rfl, _, _⟩ | ⟨_, hv⟩
    · omega
    rw [List.drop_eq_nil_of_le (by omega)] at hv
    rw [← hv]; exact ⟨rfl, rfl⟩
end Go.Ry

set_option linter.unusedVariables false
set_option linter.unusedSimpArgs false
namespace Go.Ry
open Go.Proofs

def sumM (code : List Ins) (known : List Su) (i to : Nat) (out : Su) : Su :=
  if h : i < to then
    if (insAt code i).1 = 26 then
      sumM code known (i + 1) to (beh (beh out (one (cost (insAt code i).1) ((insAt code i).1 == 25))) (known.getD (insAt code i).2.1.toNat ((0 : Int), ((0 : Int), ((0 : Int), ((0 : Int), ((0 : Int), ())))))))
    else if (insAt code i).1 = 21 then
      if hm : i < (matchM code i).2.1 ∧ (matchM code i).2.1 < to ∧ (matchM code i).1 < (matchM code i).2.1 then
        if ho : i < (matchM code i).1 then
          sumM code known ((matchM code i).2.1 + 1) to (beh (beh out (one (cost (insAt code i).1) ((insAt code i).1 == 25)))
            (eith (beh (sumM code known (i + 1) (matchM code i).1 one0) tick) (beh (sumM code known ((matchM code i).1 + 1) (matchM code i).2.1 one0) tick)))
        else
          sumM code known ((matchM code i).2.1 + 1) to (beh (beh out (one (cost (insAt code i).1) ((insAt code i).1 == 25))) (eith (beh (sumM code known (i + 1) (matchM code i).2.1 one0) tick) one0))
      else out
    else if (insAt code i).1 = 24 then
      if hm : i < (matchM code i).2.1 ∧ (matchM code i).2.1 < to then
        sumM code known ((matchM code i).2.1 + 1) to (beh (beh out (one (cost (insAt code i).1) ((insAt code i).1 == 25))) (rep (beh (sumM code known (i + 1) (matchM code i).2.1 one0) tick) (insAt code i).2.1.toNat))
      else out
    else sumM code known (i + 1) to (beh out (one (cost (insAt code i).1) ((insAt code i).1 == 25)))
  else out
termination_by to - i
decreasing_by all_goals omega
theorem sumM_end {code : List Ins} {known : List Su} {i to : Nat} {out : Su} (h : ¬ i < to) : sumM code known i to out = out := by rw [sumM, dif_neg h]
section
variable {code : List Ins} {known : List Su} {i to : Nat} {out : Su} (h : i < to)
include h
theorem sumM_call (h1 : (insAt code i).1 = 26) : sumM code known i to out =
    sumM code known (i + 1) to (beh (beh out (one (cost (insAt code i).1) ((insAt code i).1 == 25))) (known.getD (insAt code i).2.1.toNat ((0 : Int), ((0 : Int), ((0 : Int), ((0 : Int), ((0 : Int), ()))))))) := by
  rw [sumM, dif_pos h, if_pos h1]
theorem sumM_plain (h1 : (insAt code i).1 ≠ 26) (h2 : (insAt code i).1 ≠ 21) (h3 : (insAt code i).1 ≠ 24) : sumM code known i to out = sumM code known (i + 1) to (beh out (one (cost (insAt code i).1) ((insAt code i).1 == 25))) := by
  rw [sumM, dif_pos h, if_neg h1, if_neg h2, if_neg h3]
theorem sumM_if {o e : Nat} (h2 : (insAt code i).1 = 21) (hm : Met code i to o e) (ho : 0 < o) : sumM code known i to out =
    sumM code known (e + 1) to (beh (beh out (one (cost (insAt code i).1) ((insAt code i).1 == 25))) (eith (beh (sumM code known (i + 1) o one0) tick) (beh (sumM code known (o + 1) e one0) tick))) := by
  have h1 := hm.lt
  have h3 := hm.hi
  have h4 : i < o ∧ o < e := by rcases hm.oth with h | h <;> omega
  rw [sumM, dif_pos h, if_neg (by omega), if_pos h2]
  simp only [hm.m]
  rw [dif_pos (by omega), dif_pos h4.1]
theorem sumM_if0 {e : Nat} (h2 : (insAt code i).1 = 21) (hm : Met code i to 0 e) : sumM code known i to out =
    sumM code known (e + 1) to (beh (beh out (one (cost (insAt code i).1) ((insAt code i).1 == 25))) (eith (beh (sumM code known (i + 1) e one0) tick) one0)) := by
  have h1 := hm.lt
  have h3 := hm.hi
  rw [sumM, dif_pos h, if_neg (by omega), if_pos h2]
  simp only [hm.m]
  rw [dif_pos (by omega), dif_neg (by omega)]
theorem sumM_rep {o e : Nat} (h2 : (insAt code i).1 = 24) (hm : Met code i to o e) : sumM code known i to out =
    sumM code known (e + 1) to (beh (beh out (one (cost (insAt code i).1) ((insAt code i).1 == 25))) (rep (beh (sumM code known (i + 1) e one0) tick) (insAt code i).2.1.toNat)) := by
  have h1 := hm.lt
  have h3 := hm.hi
  rw [sumM, dif_pos h, if_neg (by omega), if_neg (by omega), if_pos h2]
  simp only [hm.m]
  rw [dif_pos (by omega)]
end
/-- Instructions whose operands are as they should be, where k routines are known. -/
structure CodeIn (code : List Ins) (k : Nat) : Prop where
  len : code.length ≤ 40
  call : ∀ i, i < code.length → (insAt code i).1 = 26 → 0 ≤ (insAt code i).2.1 ∧ (insAt code i).2.1 < k
  rep : ∀ i, i < code.length → (insAt code i).1 = 24 → 1 ≤ (insAt code i).2.1 ∧ (insAt code i).2.1 ≤ 20
theorem cost_range (op : Int) : 0 ≤ cost op ∧ cost op ≤ 4 := by
  unfold cost
  split
  · omega
  split
  · omega
  split <;> omega
theorem sumM_ok {code : List Ins} {known : List Su} (hc : CodeIn code known.length) (hk : allOk known) : ∀ (N : Nat) {i to : Nat} {out : Su}, to - i ≤ N → Seg code i to → okS out → okS (sumM code known i to out)
  | 0, i, to, out, hn, hs, ho => by rw [sumM_end (by omega)]; exact ho
  | N + 1, i, to, out, hn, hs, ho => by
    by_cases h : i < to
    · have h1 := beh_ok ho (one_ok (n := cost (insAt code i).1) (b := (insAt code i).1 == 25) (by have := cost_range (insAt code i).1; omega))
      have hl := hs.len
      by_cases h2 : (insAt code i).1 = 26
      · rw [sumM_call h h2]
        have := hc.call i (by omega) h2
        exact sumM_ok hc hk N (by omega) (hs.step h (by omega) (by omega)).1 (beh_ok h1 (hk.at (by omega)))
      by_cases h3 : (insAt code i).1 = 21
      · obtain ⟨o, e, hm⟩ := hs.meet h (.inl h3)
        have := hm.lt
        have := hm.hi
        by_cases h0 : 0 < o
        · have h4 : i < o ∧ o < e ∧ Seg code (i + 1) o ∧ Seg code (o + 1) e := by
            rcases hm.oth with h | h
            · omega
            · exact h
          rw [sumM_if h h3 hm h0]
          exact sumM_ok hc hk N (by omega) hm.rest (beh_ok h1 (eith_ok (beh_ok (sumM_ok hc hk N (by omega) h4.2.2.1 one0_ok) tick_ok) (beh_ok (sumM_ok hc hk N (by omega) h4.2.2.2 one0_ok) tick_ok)))
        · have : o = 0 := by omega
          subst this
          rw [sumM_if0 h h3 hm]
          exact sumM_ok hc hk N (by omega) hm.rest (beh_ok h1 (eith_ok (beh_ok (sumM_ok hc hk N (by omega) hm.body one0_ok) tick_ok) one0_ok))
      by_cases h4 : (insAt code i).1 = 24
      · obtain ⟨o, e, hm⟩ := hs.meet h (.inr h4)
        have := hm.lt
        have := hm.hi
        rw [sumM_rep h h4 hm]
        exact sumM_ok hc hk N (by omega) hm.rest (beh_ok h1 (rep_ok (beh_ok (sumM_ok hc hk N (by omega) hm.body one0_ok) tick_ok) _))
      · rw [sumM_plain h h2 h3 h4]
        exact sumM_ok hc hk N (by omega) (hs.step h h3 h4).1 h1
    · rw [sumM_end h]; exact ho
theorem c_impl_summarize (code : List Ins) (known : List Su) (hc : CodeIn code known.length) (hk : allOk known) (hkl : known.length ≤ 1048576) : ∀ (N i to : Nat), to - i ≤ N → Seg code i to →
    TT n_impl_summarize [.one (.sl tIns code), eI i, eI to, .one (.sl tSu known)] [] (suE (sumM code known i to one0)) []
  | N, i0, to, hn, hs0 => by
    have hl40 := hc.len
    have hl := hs0.len
    refine r_impl_summarize code i0 to known ⟨_, _, _, _, _, c_impl_oneCost 0 false, _, _, _, _, _, c_impl_oneCost 1 false,
      fun m i t n h ta ii t2 n2 h2 ta2 ii2 => ∃ k : Nat, i = k ∧ i0 ≤ k ∧ m = to - k ∧ Seg code k to ∧ (t2, (n2, (h2, (ta2, (ii2, ()))))) = tick ∧ okS (t, (n, (h, (ta, (ii, ()))))) ∧ sumM code known k to (t, (n, (h, (ta, (ii, ()))))) = sumM code known i0 to one0,
      ⟨_, rfl, rfl, i0, rfl, by omega, rfl, hs0, rfl, one0_ok, rfl⟩, ?_⟩
    rintro m i t n h ta ii t2 n2 h2 ta2 ii2 ⟨k, rfl, hk0, rfl, hs, htk, hout, hv⟩
    obtain ⟨rfl, rfl, rfl, rfl, rfl⟩ : t2 = 1 ∧ n2 = 1 ∧ h2 = -1 ∧ ta2 = -1 ∧ ii2 = -1 := by
      simp [tick, one] at htk
      exact htk
    refine ifP (fun hlt => ?_) (fun hge => ?_)
    · have hlt : k < to := by omega
      have rec_ := fun (a b : Nat) (hab : b - a < N) (hs : Seg code a b) => c_impl_summarize code known hc hk hkl (b - a) a b (Nat.le_refl _) hs
      have hat : code.getD k ((0 : Int), ((0 : Int), ())) = insAt code k := rfl
      rw [Int.toNat_natCast, hat]
      have hco := cost_range (insAt code k).1
      have h1 := one_ok (n := cost (insAt code k).1) (b := (insAt code k).1 == 25) (by omega)
      have h1b := beh_ok hout h1
      refine ⟨by omega, _, c_impl_cost _, _, _, _, _, _, c_impl_oneCost _ _, _, _, _, _, _, c_impl_beh (t, (n, (h, (ta, (ii, ()))))) (one (cost (insAt code k).1) ((insAt code k).1 == 25)) hout h1, ?_⟩
      refine ifE (fun e26 => ?_) (fun e26 => ifE (fun e21 => ?_) (fun e21 => ifE (fun e24 => ?_) (fun e24 => ?_)))
      · have hr := hc.call k (by omega) e26
        have hx := hk.at (i := (insAt code k).2.1.toNat) (by omega)
        refine ⟨by omega, _, _, _, _, _, c_impl_beh (beh (t, (n, (h, (ta, (ii, ()))))) (one (cost (insAt code k).1) ((insAt code k).1 == 25))) _ h1b hx, ?_⟩
        rw [w64 (by omega)]
        rw [sumM_call hlt e26] at hv
        exact ⟨_, (by omega : to - (k + 1) < to - k), rfl, rfl, k + 1, by omega, by omega, rfl, (hs.step hlt (by omega) (by omega)).1, rfl, beh_ok h1b hx, hv⟩
      · obtain ⟨o, e, hm⟩ := hs.meet hlt (.inl e21)
        have q1 := hm.lt
        have q2 := hm.hi
        have q3 := c_impl_match code k (by omega) (by omega) (.inl e21)
        rw [hm.m] at q3
        have r1 := rec_ (k + 1) e (by omega) hm.body
        have s1 := beh_ok (sumM_ok hc hk _ (Nat.le_refl _) hm.body one0_ok) tick_ok
        have w1 : wI ((k : Int) + 1) = ((k + 1 : Nat) : Int) := by rw [w64 (by omega)]; rfl
        rw [w1]
        refine ⟨_, _, _, q3, _, _, _, _, _, r1, _, _, _, _, _, c_impl_oneCost 0 false, ?_⟩
        by_cases ho : 0 < o
        · have h4 : k < o ∧ o < e ∧ Seg code (k + 1) o ∧ Seg code (o + 1) e := by
            rcases hm.oth with h | h
            · omega
            · exact h
          have w2 : wI ((o : Int) + 1) = ((o + 1 : Nat) : Int) := by rw [w64 (by omega)]; rfl
          have w3 : wI ((e : Int) + 1) = ((e + 1 : Nat) : Int) := by rw [w64 (by omega)]; rfl
          have r2 := rec_ (k + 1) o (by omega) h4.2.2.1
          have r3 := rec_ (o + 1) e (by omega) h4.2.2.2
          have s2 := beh_ok (sumM_ok hc hk _ (Nat.le_refl _) h4.2.2.1 one0_ok) tick_ok
          have s3 := beh_ok (sumM_ok hc hk _ (Nat.le_refl _) h4.2.2.2 one0_ok) tick_ok
          have b3 := c_impl_beh (sumM code known (o + 1) e one0) tick (sumM_ok hc hk _ (Nat.le_refl _) h4.2.2.2 one0_ok) tick_ok
          rw [sumM_if hlt e21 hm ho] at hv
          rw [w2]
          refine ⟨_, ifP_t (by omega) ⟨_, _, _, _, _, r2, ⟨_, _, _, _, _, r3, _, _, _, _, _, b3, rfl, rfl, ?_⟩, ⟨_, _, _, _, _, r3, _, _, _, _, _, b3, rfl, rfl, ?_⟩⟩, fun _ _ _ _ _ _ _ _ _ _ _ _ _ _ _ _ _ _ _ _ _ h => h⟩
          all_goals
            refine ⟨_, _, _, _, _, c_impl_beh (sumM code known (k + 1) o one0) tick (sumM_ok hc hk _ (Nat.le_refl _) h4.2.2.1 one0_ok) tick_ok, _, _, _, _, _, c_impl_either (beh (sumM code known (k + 1) o one0) tick) (beh (sumM code known (o + 1) e one0) tick), _, _, _, _, _,
              c_impl_beh (beh (t, (n, (h, (ta, (ii, ()))))) (one (cost (insAt code k).1) ((insAt code k).1 == 25))) _ h1b (eith_ok s2 s3), ?_⟩
            rw [w3]
            exact ⟨_, (by omega : to - (e + 1) < to - k), rfl, rfl, e + 1, rfl, by omega, rfl, hm.rest, rfl, beh_ok h1b (eith_ok s2 s3), hv⟩
        · have h0 : o = 0 := by omega
          subst h0
          have w3 : wI ((e : Int) + 1) = ((e + 1 : Nat) : Int) := by rw [w64 (by omega)]; rfl
          rw [sumM_if0 hlt e21 hm] at hv
          refine ⟨_, ifP_f (by omega) ⟨rfl, rfl, ?_⟩, fun _ _ _ _ _ _ _ _ _ _ _ _ _ _ _ _ _ _ _ _ _ h => h⟩
          refine ⟨_, _, _, _, _, c_impl_beh (sumM code known (k + 1) e one0) tick (sumM_ok hc hk _ (Nat.le_refl _) hm.body one0_ok) tick_ok, _, _, _, _, _, c_impl_either (beh (sumM code known (k + 1) e one0) tick) one0, _, _, _, _, _,
            c_impl_beh (beh (t, (n, (h, (ta, (ii, ()))))) (one (cost (insAt code k).1) ((insAt code k).1 == 25))) _ h1b (eith_ok s1 one0_ok), ?_⟩
          rw [w3]
          exact ⟨_, (by omega : to - (e + 1) < to - k), rfl, rfl, e + 1, rfl, by omega, rfl, hm.rest, rfl, beh_ok h1b (eith_ok s1 one0_ok), hv⟩
      · obtain ⟨o, e, hm⟩ := hs.meet hlt (.inr e24)
        have q1 := hm.lt
        have q2 := hm.hi
        have q3 := c_impl_match code k (by omega) (by omega) (.inr e24)
        rw [hm.m] at q3
        have hr := hc.rep k (by omega) e24
        have r1 := rec_ (k + 1) e (by omega) hm.body
        have s0 := sumM_ok hc hk _ (Nat.le_refl _) hm.body one0_ok
        have s1 := beh_ok s0 tick_ok
        have w1 : wI ((k : Int) + 1) = ((k + 1 : Nat) : Int) := by rw [w64 (by omega)]; rfl
        have w3 : wI ((e : Int) + 1) = ((e + 1 : Nat) : Int) := by rw [w64 (by omega)]; rfl
        rw [sumM_rep hlt e24 hm] at hv
        rw [w1]
        refine ⟨_, _, _, q3, ⟨_, _, _, _, _, r1, _, _, _, _, _, c_impl_beh _ tick s0 tick_ok, _, _, _, _, _, c_impl_repeated (beh (sumM code known (k + 1) e one0) tick) _ s1 (by omega), _, _, _, _, _, c_impl_beh (beh (t, (n, (h, (ta, (ii, ()))))) (one (cost (insAt code k).1) ((insAt code k).1 == 25))) _ h1b (rep_ok s1 _), ?_⟩,
          ⟨_, _, _, _, _, r1, _, _, _, _, _, c_impl_beh _ tick s0 tick_ok, _, _, _, _, _, c_impl_repeated (beh (sumM code known (k + 1) e one0) tick) _ s1 (by omega), _, _, _, _, _, c_impl_beh (beh (t, (n, (h, (ta, (ii, ()))))) (one (cost (insAt code k).1) ((insAt code k).1 == 25))) _ h1b (rep_ok s1 _), ?_⟩⟩
        all_goals
          rw [w3]
          exact ⟨_, (by omega : to - (e + 1) < to - k), rfl, rfl, e + 1, rfl, by omega, rfl, hm.rest, rfl, beh_ok h1b (rep_ok s1 _), hv⟩
      · rw [sumM_plain hlt e26 e21 e24] at hv
        rw [w64 (by omega)]
        exact ⟨_, (by omega : to - (k + 1) < to - k), rfl, rfl, k + 1, by omega, by omega, rfl, (hs.step hlt e21 e24).1, rfl, h1b, hv⟩
    · rw [sumM_end (by omega)] at hv
      rw [← hv]; exact ⟨rfl, rfl⟩
termination_by N => N
end Go.Ry

set_option linter.unusedVariables false
set_option linter.unusedSimpArgs false
namespace Go.Ry
open Go.Proofs

theorem c_spec_l05Part (code : List Ins) (known : List Su) (hc : CodeIn code known.length) (hk : allOk known) (hkl : known.length ≤ 1048576) : ∀ (N i to : Nat), to - i ≤ N → Seg code i to →
    TT n_spec_l05Part [.one (.sl tIns code), eI i, eI to, .one (.sl tSu known)] [] (suE (sumM code known i to one0)) []
  | N, i0, to, hn, hs0 => by
    have hl40 := hc.len
    have hl := hs0.len
    refine r_spec_l05Part code i0 to known ⟨_, _, _, _, _, c_spec_l05One 0 false,
      fun m i t n h ta ii => ∃ k : Nat, i = k ∧ i0 ≤ k ∧ m = to - k ∧ Seg code k to ∧ okS (t, (n, (h, (ta, (ii, ()))))) ∧ sumM code known k to (t, (n, (h, (ta, (ii, ()))))) = sumM code known i0 to one0,
      ⟨_, rfl, rfl, i0, rfl, by omega, rfl, hs0, one0_ok, rfl⟩, ?_⟩
    rintro m i t n h ta ii ⟨k, rfl, hk0, rfl, hs, hout, hv⟩
    refine ifP (fun hlt => ?_) (fun hge => ?_)
    · have hlt : k < to := by omega
      have rec_ := fun (a b : Nat) (hab : b - a < N) (hs : Seg code a b) => c_spec_l05Part code known hc hk hkl (b - a) a b (Nat.le_refl _) hs
      have hat : code.getD k ((0 : Int), ((0 : Int), ())) = insAt code k := rfl
      rw [Int.toNat_natCast, hat]
      have hco := cost_range (insAt code k).1
      have h1 := one_ok (n := cost (insAt code k).1) (b := (insAt code k).1 == 25) (by omega)
      have h1b := beh_ok hout h1
      refine ⟨by omega, fun i t' n' h' ta' ii' op a t1 n1 h1 ta1 ii1 => i = k ∧ t' = t ∧ n' = n ∧ h' = h ∧ ta' = ta ∧ ii' = ii ∧ op = (insAt code k).1 ∧ a = (insAt code k).2.1 ∧ (t1, (n1, (h1, (ta1, (ii1, ()))))) = one (cost (insAt code k).1) ((insAt code k).1 == 25),
        ⟨⟨_, c_spec_l02Cost _, ⟨_, _, _, _, _, c_spec_l05One _ _, rfl, rfl, rfl, rfl, rfl, rfl, rfl, rfl, rfl, rfl, rfl⟩, ⟨_, _, _, _, _, c_spec_l05One _ _, rfl, rfl, rfl, rfl, rfl, rfl, rfl, rfl, rfl, rfl, rfl⟩⟩, ⟨_, c_spec_l02Cost _, _, _, _, _, _, c_spec_l05One _ _, rfl, rfl, rfl, rfl, rfl, rfl, rfl, rfl, rfl, rfl, rfl⟩⟩, ?_⟩
      rintro i t' n' h' ta' ii' op a t1 n1 h1' ta1 ii1 ⟨rfl, rfl, rfl, rfl, rfl, rfl, rfl, rfl, hone⟩
      have ho1 : okS (t1, (n1, (h1', (ta1, (ii1, ()))))) := hone ▸ h1
      refine ifE (fun e26 => ?_) (fun e26 => ifE (fun e21 => ?_) (fun e21 => ifE (fun e24 => ?_) (fun e24 => ?_)))
      · have hr := hc.call k (by omega) e26
        have hx := hk.at (i := (insAt code k).2.1.toNat) (by omega)
        refine ⟨by omega, _, _, _, _, _, c_spec_l05Behind (t1, (n1, (h1', (ta1, (ii1, ()))))) _ ho1 hx, _, _, _, _, _, c_spec_l05Behind (t', (n', (h', (ta', (ii', ()))))) _ hout (beh_ok ho1 hx), ?_⟩
        rw [w64 (by omega)]
        rw [sumM_call hlt e26, beh_assoc hout h1 hx, ← hone] at hv
        exact ⟨_, (by omega : to - (k + 1) < to - k), rfl, rfl, k + 1, by omega, by omega, rfl, (hs.step hlt (by omega) (by omega)).1, beh_ok hout (beh_ok ho1 hx), hv⟩
      · obtain ⟨o, e, hm⟩ := hs.meet hlt (.inl e21)
        have q1 := hm.lt
        have q2 := hm.hi
        have q3 := c_spec_l04Match code k (by omega) (by omega)
        rw [hm.m] at q3
        have w1 : wI ((k : Int) + 1) = ((k + 1 : Nat) : Int) := by rw [w64 (by omega)]; rfl
        have w3 : wI ((e : Int) + 1) = ((e + 1 : Nat) : Int) := by rw [w64 (by omega)]; rfl
        rw [w1]
        refine ⟨_, _, _, q3, _, _, _, _, _, c_spec_l05One 1 false, ?_⟩
        by_cases ho : 0 < o
        · have h4 : k < o ∧ o < e ∧ Seg code (k + 1) o ∧ Seg code (o + 1) e := by
            rcases hm.oth with h | h
            · omega
            · exact h
          have w2 : wI ((o : Int) + 1) = ((o + 1 : Nat) : Int) := by rw [w64 (by omega)]; rfl
          have r2 := rec_ (k + 1) o (by omega) h4.2.2.1
          have r3 := rec_ (o + 1) e (by omega) h4.2.2.2
          have p2 := sumM_ok hc hk _ (Nat.le_refl _) h4.2.2.1 one0_ok
          have p3 := sumM_ok hc hk _ (Nat.le_refl _) h4.2.2.2 one0_ok
          have s2 := beh_ok p2 tick_ok
          have s3 := beh_ok p3 tick_ok
          have s4 := eith_ok s2 s3
          rw [sumM_if hlt e21 hm ho, beh_assoc hout h1 s4, ← hone] at hv
          rw [w2]
          exact ifP_t (by omega) ⟨_, _, _, _, _, r2, _, _, _, _, _, c_spec_l05Behind _ tick p2 tick_ok, _, _, _, _, _, r3, _, _, _, _, _, c_spec_l05Behind _ tick p3 tick_ok, _, _, _, _, _, c_spec_l05Either (beh _ tick) (beh _ tick),
            _, _, _, _, _, c_spec_l05Behind (t1, (n1, (h1', (ta1, (ii1, ()))))) (eith (beh _ tick) (beh _ tick)) ho1 s4, _, _, _, _, _, c_spec_l05Behind (t', (n', (h', (ta', (ii', ()))))) (beh _ _) hout (beh_ok ho1 s4),
            _, (by omega : to - (e + 1) < to - k), rfl, rfl, e + 1, w3, by omega, rfl, hm.rest, beh_ok hout (beh_ok ho1 s4), hv⟩
        · have h0 : o = 0 := by omega
          subst h0
          have r2 := rec_ (k + 1) e (by omega) hm.body
          have p2 := sumM_ok hc hk _ (Nat.le_refl _) hm.body one0_ok
          have s4 := eith_ok (beh_ok p2 tick_ok) one0_ok
          rw [sumM_if0 hlt e21 hm, beh_assoc hout h1 s4, ← hone] at hv
          exact ifP_f (by omega) ⟨_, _, _, _, _, r2, _, _, _, _, _, c_spec_l05Behind _ tick p2 tick_ok, _, _, _, _, _, c_spec_l05One 0 false, _, _, _, _, _, c_spec_l05Either (beh _ tick) one0,
            _, _, _, _, _, c_spec_l05Behind (t1, (n1, (h1', (ta1, (ii1, ()))))) (eith (beh _ tick) one0) ho1 s4, _, _, _, _, _, c_spec_l05Behind (t', (n', (h', (ta', (ii', ()))))) (beh _ _) hout (beh_ok ho1 s4),
            _, (by omega : to - (e + 1) < to - k), rfl, rfl, e + 1, w3, by omega, rfl, hm.rest, beh_ok hout (beh_ok ho1 s4), hv⟩
      · obtain ⟨o, e, hm⟩ := hs.meet hlt (.inr e24)
        have q1 := hm.lt
        have q2 := hm.hi
        have q3 := c_spec_l04Match code k (by omega) (by omega)
        rw [hm.m] at q3
        have hr := hc.rep k (by omega) e24
        have w1 : wI ((k : Int) + 1) = ((k + 1 : Nat) : Int) := by rw [w64 (by omega)]; rfl
        have w3 : wI ((e : Int) + 1) = ((e + 1 : Nat) : Int) := by rw [w64 (by omega)]; rfl
        rw [w1]
        have r2 := rec_ (k + 1) e (by omega) hm.body
        have p2 := sumM_ok hc hk _ (Nat.le_refl _) hm.body one0_ok
        have s4 := rep_ok (beh_ok p2 tick_ok) (insAt code k).2.1.toNat
        rw [sumM_rep hlt e24 hm, beh_assoc hout h1 s4, ← hone] at hv
        exact ⟨_, _, _, q3, _, _, _, _, _, r2, _, _, _, _, _, c_spec_l05One 1 false, _, _, _, _, _, c_spec_l05Behind _ tick p2 tick_ok, _, _, _, _, _, c_spec_l05Times (beh _ tick) _ (beh_ok p2 tick_ok) (by omega),
          _, _, _, _, _, c_spec_l05Behind (t1, (n1, (h1', (ta1, (ii1, ()))))) (rep (beh _ tick) _) ho1 s4, _, _, _, _, _, c_spec_l05Behind (t', (n', (h', (ta', (ii', ()))))) (beh _ _) hout (beh_ok ho1 s4),
          _, (by omega : to - (e + 1) < to - k), rfl, rfl, e + 1, w3, by omega, rfl, hm.rest, beh_ok hout (beh_ok ho1 s4), hv⟩
      · rw [sumM_plain hlt e26 e21 e24, ← hone] at hv
        rw [w64 (by omega)]
        exact ⟨_, _, _, _, _, c_spec_l05Behind (t', (n', (h', (ta', (ii', ()))))) (t1, (n1, (h1', (ta1, (ii1, ()))))) hout ho1, _, (by omega : to - (k + 1) < to - k), rfl, rfl, k + 1, by omega, by omega, rfl, (hs.step hlt e21 e24).1, beh_ok hout ho1, hv⟩
    · rw [sumM_end (by omega)] at hv
      rw [← hv]; exact ⟨rfl, rfl⟩
termination_by N => N

/-! ### all routines -/
def costsL : List Rou → List Su → List Su
  | [], acc => acc
  | r :: l, acc => costsL l (acc ++ [sumM r.1 acc 0 r.1.length one0])
def costsM (rs : List Rou) : List Su := costsL rs []
/-- Routines that are well nested and call only those ahead of them. -/
structure RousIn (rs : List Rou) : Prop where
  len : rs.length ≤ 6
  code : ∀ k, k < rs.length → CodeIn (rs.getD k (([] : List Ins), ())).1 k ∧ Seg (rs.getD k (([] : List Ins), ())).1 0 (rs.getD k (([] : List Ins), ())).1.length
theorem PrgFit.rous {ks : List Int} {rs : List Rou} {ts : List Tsk} {sf : List Bool} (h : PrgFit ks rs ts sf) : RousIn rs := by
  have hr := h.hr
  simp only [rousOK, Bool.and_eq_true, decide_eq_true_eq, List.all_eq_true] at hr
  refine ⟨hr.1, fun k hk => ?_⟩
  have hg : rs[k]? = some (rs.getD k (([] : List Ins), ())) := by rw [List.getD_eq_getElem?_getD, List.getElem?_eq_getElem hk]; rfl
  have hv := verAllM_ok h.ver k _ hg
  have hc := hr.2 _ (List.mem_of_getElem? hg)
  revert hv hc
  generalize (rs.getD k (([] : List Ins), ())) = r
  intro hv hc
  simp only [rouOK, codeOK, Bool.and_eq_true, decide_eq_true_eq, List.all_eq_true] at hc
  have hins : ∀ i, i < r.1.length → insOK (insAt r.1 i) = true := fun i hi => by
    unfold insAt
    rw [List.getD_eq_getElem?_getD, List.getElem?_eq_getElem hi]
    exact hc.2 _ (List.getElem_mem hi)
  have hmem : ∀ i, i < r.1.length → insAt r.1 i ∈ r.1 := fun i hi => by
    unfold insAt
    rw [List.getD_eq_getElem?_getD, List.getElem?_eq_getElem hi]
    exact List.getElem_mem hi
  refine ⟨⟨hc.1, fun i hi h26 => ?_, fun i hi h24 => ?_⟩, ⟨by omega, by omega, ?_⟩⟩
  · have h1 := hins i hi
    simp only [insOK, instrOK, Bool.and_eq_true] at h1
    rw [h26] at h1
    have h2 : within (insAt r.1 i).2.1 0 5 = true := h1.2
    have h2 := within_iff.1 h2
    have h3 := verS_calls hv _ (hmem i hi) h26
    omega
  · have h1 := hins i hi
    simp only [insOK, instrOK, Bool.and_eq_true] at h1
    rw [h24] at h1
    have h2 : within (insAt r.1 i).2.1 1 20 = true := h1.2
    exact within_iff.1 h2
  · have := verM_bal hv
    rw [List.drop_zero, Nat.sub_zero, List.take_length]
    exact this
theorem costs_step {rs : List Rou} (h : RousIn rs) {acc : List Su} {k : Nat} (hk : k < rs.length) (ha : acc.length = k) (hok : allOk acc) :
    allOk (acc ++ [sumM (rs.getD k (([] : List Ins), ())).1 acc 0 (rs.getD k (([] : List Ins), ())).1.length one0]) := by
  intro x hx
  rcases List.mem_append.1 hx with hx | hx
  · exact hok x hx
  · simp only [List.mem_singleton] at hx
    subst hx
    have := h.code k hk
    exact sumM_ok (ha ▸ this.1) hok _ (Nat.le_refl _) this.2 one0_ok
theorem costs_all {rs : List Rou} (h : RousIn rs) : allOk (costsM rs) ∧ (costsM rs).length = rs.length := by
  have : ∀ (n k : Nat) (acc : List Su), rs.length - k = n → k ≤ rs.length → acc.length = k → allOk acc → costsM rs = costsL (rs.drop k) acc → allOk (costsM rs) ∧ (costsM rs).length = rs.length := by
    intro n
    induction n with
    | zero =>
      intro k acc hn hk ha hok he
      rw [List.drop_eq_nil_of_le (by omega)] at he
      rw [he]
      exact ⟨hok, by simp only [costsL]; omega⟩
    | succ n ih =>
      intro k acc hn hk ha hok he
      rw [drop_getD (by omega) (([] : List Ins), ())] at he
      exact ih (k + 1) _ (by omega) (by omega) (by simp [ha]) (costs_step h (by omega) ha hok) he
  exact this _ 0 [] rfl (by omega) rfl (fun x hx => by simp at hx) rfl
theorem c_impl_costsOf (rs : List Rou) (h : RousIn rs) : TT n_impl_costsOf [.one (.sl tRou rs)] [] (.one (.row 0)) [.row t_impl_Summary tSu (costsM rs)] := by
  have hl := h.len
  refine r_impl_costsOf rs ⟨fun m i acc => 0 ≤ i ∧ i ≤ rs.length ∧ m = (rs.length - i).toNat ∧ acc.length = i.toNat ∧ allOk acc ∧ costsM rs = costsL (rs.drop i.toNat) acc, ⟨_, rfl, by omega, by omega, rfl, rfl, fun x hx => by simp at hx, rfl⟩, ?_⟩
  rintro m i acc ⟨h0, h1, rfl, ha, hok, he⟩
  refine ifP (fun hlt => ?_) (fun hge => ?_)
  · have hc := h.code i.toNat (by omega)
    have hcl := hc.1.len
    rw [drop_getD (by omega) (([] : List Ins), ())] at he
    refine ⟨⟨h0, hlt⟩, _, _, _, _, _, c_impl_summarize _ acc (ha ▸ hc.1) hok (by omega) _ 0 _ (Nat.le_refl _) hc.2, by simp; omega, ?_⟩
    rw [w64 (by omega)]
    exact ⟨_, by omega, rfl, by omega, by omega, rfl, by simp; omega, costs_step h (by omega) ha hok, by rw [toNat_succ h0]; exact he⟩
  · rw [List.drop_eq_nil_of_le (by omega)] at he
    rw [he]; exact ⟨rfl, rfl⟩
theorem c_spec_l05Costs (rs : List Rou) (h : RousIn rs) : TT n_spec_l05Costs [.one (.sl tRou rs)] [] (.one (.row 0)) [.row t_impl_Summary tSu (costsM rs)] := by
  have hl := h.len
  refine r_spec_l05Costs rs ⟨fun m i acc => 0 ≤ i ∧ i ≤ rs.length ∧ m = (rs.length - i).toNat ∧ acc.length = i.toNat ∧ allOk acc ∧ costsM rs = costsL (rs.drop i.toNat) acc, ⟨_, rfl, by omega, by omega, rfl, rfl, fun x hx => by simp at hx, rfl⟩, ?_⟩
  rintro m i acc ⟨h0, h1, rfl, ha, hok, he⟩
  refine ifP (fun hlt => ?_) (fun hge => ?_)
  · have hc := h.code i.toNat (by omega)
    have hcl := hc.1.len
    rw [drop_getD (by omega) (([] : List Ins), ())] at he
    refine ⟨⟨h0, hlt⟩, ⟨h0, hlt⟩, _, _, _, _, _, c_spec_l05Part _ acc (ha ▸ hc.1) hok (by omega) _ 0 _ (Nat.le_refl _) hc.2, by simp; omega, ?_⟩
    rw [w64 (by omega)]
    exact ⟨_, by omega, rfl, by omega, by omega, rfl, by simp; omega, costs_step h (by omega) ha hok, by rw [toNat_succ h0]; exact he⟩
  · rw [List.drop_eq_nil_of_le (by omega)] at he
    rw [he]; exact ⟨rfl, rfl⟩
end Go.Ry
