/- Summaries of costs. No condition. -/
import Derived.Test.YtopchiaiefkehaaGreatPVer6
set_option linter.unusedVariables false
set_option linter.unusedSimpArgs false
namespace Go.Ry
open Go.Proofs

abbrev Su := Int × Int × Int × Int × Int × Unit
@[reducible] def tSu : Ty := .pair (.int .i64) (.pair (.int .i64) (.pair (.int .i64) (.pair (.int .i64) (.pair (.int .i64) .unit))))
@[reducible] def dSu : Su := ((0 : Int), ((0 : Int), ((0 : Int), ((0 : Int), ((0 : Int), ())))))
@[reducible] def suE (a : Su) : Ent := .agg [cI a.1, cI a.2.1, cI a.2.2.1, cI a.2.2.2.1, cI a.2.2.2.2.1]
def okN (x : Int) : Prop := -1 ≤ x ∧ x ≤ 2147483647
structure okS (a : Su) : Prop where
  t : 0 ≤ a.1 ∧ a.1 ≤ 2147483647
  n : okN a.2.1
  h : okN a.2.2.1
  l : okN a.2.2.2.1
  i : okN a.2.2.2.2.1
def plus (a b : Int) : Int := if a = -1 ∨ b = -1 then -1 else if 2147483647 < a + b then 2147483647 else a + b
theorem plus_ok {a b : Int} (ha : okN a) (hb : okN b) : okN (plus a b) := by
  unfold plus okN at *
  split
  · omega
  · split <;> omega
theorem plus_t {a b : Int} (ha : 0 ≤ a ∧ a ≤ 2147483647) (hb : 0 ≤ b ∧ b ≤ 2147483647) : 0 ≤ plus a b ∧ plus a b ≤ 2147483647 := by
  unfold plus
  split
  · omega
  · split <;> omega
theorem max_ok {a b : Int} (ha : okN a) (hb : okN b) : okN (max a b) := by unfold okN at *; omega
theorem plus_assoc {a b c : Int} (ha : okN a) (hb : okN b) (hc : okN c) : plus (plus a b) c = plus a (plus b c) := by
  unfold plus okN at *
  (repeat' split) <;> omega
theorem plus_max {a b c : Int} (ha : okN a) (hb : okN b) (hc : okN c) : plus a (max b c) = max (plus a b) (plus a c) := by
  unfold plus okN at *
  (repeat' split) <;> omega
theorem max_plus {a b c : Int} (ha : okN a) (hb : okN b) (hc : okN c) : plus (max a b) c = max (plus a c) (plus b c) := by
  unfold plus okN at *
  (repeat' split) <;> omega
theorem mx (x y : Int) : (if y > x then y else x) = max x y := by rw [Int.max_def]; split <;> split <;> omega
theorem c_spec_l05Plus (a b : Int) (ha : okN a) (hb : okN b) : TT n_spec_l05Plus [eI a, eI b] [] (eI (plus a b)) [] := by
  unfold okN at ha hb
  refine r_spec_l05Plus a b (ifP (fun h => ?_) (fun h => ifP (fun h2 => ?_) (fun h2 => ?_)))
  · exact ⟨by simp [plus, show a = -1 by omega], rfl⟩
  · exact ⟨by simp [plus, show b = -1 by omega], rfl⟩
  · rw [w64 (by omega)]
    exact ⟨by simp [plus, show ¬ a = -1 by omega, show ¬ b = -1 by omega], rfl⟩
def one (n : Int) (cut : Bool) : Su := if cut = true then (n, (-1, (n, (0, (-1, ()))))) else (n, (n, (-1, (-1, (-1, ())))))
theorem one_ok {n : Int} {b : Bool} (h : 0 ≤ n ∧ n ≤ 2147483647) : okS (one n b) := by
  cases b <;> refine ⟨?_, ?_, ?_, ?_, ?_⟩ <;> simp [one, okN] <;> omega
theorem c_spec_l05One (n : Int) (b : Bool) : TT n_spec_l05One [eI n, eB b] [] (suE (one n b)) [] :=
  r_spec_l05One n b (ifB_cases (fun h => by subst h; exact ⟨rfl, rfl⟩) (fun h => by subst h; exact ⟨rfl, rfl⟩))
/-- One behind the other. -/
def beh (a b : Su) : Su :=
  (plus a.1 b.1, (plus a.2.1 b.2.1, (max a.2.2.1 (plus a.2.1 b.2.2.1), (max b.2.2.2.1 (plus a.2.2.2.1 b.2.1), (max (max a.2.2.2.2.1 b.2.2.2.2.1) (plus a.2.2.2.1 b.2.2.1), ())))))
theorem beh_ok {a b : Su} (ha : okS a) (hb : okS b) : okS (beh a b) :=
  ⟨plus_t ha.t hb.t, plus_ok ha.n hb.n, max_ok ha.h (plus_ok ha.n hb.h), max_ok hb.l (plus_ok ha.l hb.n), max_ok (max_ok ha.i hb.i) (plus_ok ha.l hb.h)⟩
theorem okS.t' {a : Su} (h : okS a) : okN a.1 := ⟨by have := h.t.1; omega, h.t.2⟩
theorem beh_assoc {a b c : Su} (ha : okS a) (hb : okS b) (hc : okS c) : beh (beh a b) c = beh a (beh b c) := by
  unfold beh
  dsimp only
  rw [plus_assoc ha.t' hb.t' hc.t', plus_assoc ha.n hb.n hc.n, plus_assoc ha.n hb.n hc.h, max_plus hb.l (plus_ok ha.l hb.n) hc.n, plus_assoc ha.l hb.n hc.n,
    max_plus hb.l (plus_ok ha.l hb.n) hc.h, plus_assoc ha.l hb.n hc.h, plus_max ha.n hb.h (plus_ok hb.n hc.h), plus_max ha.l hb.h (plus_ok hb.n hc.h)]
  refine Prod.ext rfl (Prod.ext rfl (Prod.ext ?_ (Prod.ext ?_ (Prod.ext ?_ rfl)))) <;> dsimp only <;> omega
theorem c_spec_l05Behind (a b : Su) (ha : okS a) (hb : okS b) : TT n_spec_l05Behind [suE a, suE b] [] (suE (beh a b)) [] := by
  refine r_spec_l05Behind _ _ _ _ _ _ _ _ _ _ ⟨_, c_spec_l05Plus _ _ ha.t' hb.t', _, c_spec_l05Plus _ _ ha.n hb.n, _, c_spec_l05Plus _ _ ha.n hb.h, _, c_spec_l05Plus _ _ ha.l hb.n, _, c_spec_l05Plus _ _ ha.l hb.h, ?_⟩
  exact ⟨by simp only [beh, mx], rfl⟩
def allOk (l : List Su) : Prop := ∀ x ∈ l, okS x
theorem allOk.at {l : List Su} (h : allOk l) {i : Nat} (hi : i < l.length) : okS (l.getD i ((0 : Int), ((0 : Int), ((0 : Int), ((0 : Int), ((0 : Int), ())))))) := by
  rw [List.getD_eq_getElem?_getD, List.getElem?_eq_getElem hi]
  exact h _ (List.getElem_mem hi)
theorem foldl_ok {l : List Su} : ∀ {a : Su}, okS a → allOk l → okS (l.foldl beh a) := by
  induction l with
  | nil => intro a h _; exact h
  | cons x l ih => intro a h hl; exact ih (beh_ok h (hl x (by simp))) fun y hy => hl y (by simp [hy])
def eith (a b : Su) : Su := (max a.1 b.1, (max a.2.1 b.2.1, (max a.2.2.1 b.2.2.1, (max a.2.2.2.1 b.2.2.2.1, (max a.2.2.2.2.1 b.2.2.2.2.1, ())))))
theorem eith_ok {a b : Su} (ha : okS a) (hb : okS b) : okS (eith a b) :=
  ⟨by have := ha.t; have := hb.t; simp only [eith]; omega, max_ok ha.n hb.n, max_ok ha.h hb.h, max_ok ha.l hb.l, max_ok ha.i hb.i⟩
theorem c_spec_l05Either (a b : Su) : TT n_spec_l05Either [suE a, suE b] [] (suE (eith a b)) [] := by
  refine r_spec_l05Either _ _ _ _ _ _ _ _ _ _ ?_
  unfold v_spec_l05Either
  exact ⟨by simp only [eith, mx], rfl⟩
def one0 : Su := one 0 false
def tick : Su := one 1 false
theorem one0_ok : okS one0 := one_ok (by omega)
theorem tick_ok : okS tick := one_ok (by omega)
def rep (a : Su) : Nat → Su
  | 0 => one0
  | n + 1 => beh (rep a n) a
theorem rep_ok {a : Su} (ha : okS a) : ∀ n, okS (rep a n)
  | 0 => one0_ok
  | n + 1 => beh_ok (rep_ok ha n) ha
theorem c_spec_l05Times (a : Su) (n : Int) (ha : okS a) (hn : 0 ≤ n ∧ n ≤ 1048576) : TT n_spec_l05Times [suE a, eI n] [] (suE (rep a n.toNat)) [] := by
  refine r_spec_l05Times _ _ _ _ _ n ⟨_, _, _, _, _, c_spec_l05One 0 false, fun m i t n' h ta ii => 0 ≤ i ∧ i ≤ n ∧ m = (n - i).toNat ∧ (t, (n', (h, (ta, (ii, ()))))) = rep a i.toNat, ⟨_, rfl, rfl, by omega, by omega, rfl, rfl⟩, ?_⟩
  rintro m i t n' h ta ii ⟨h0, h1, rfl, hv⟩
  have hk : okS (t, (n', (h, (ta, (ii, ()))))) := hv ▸ rep_ok ha _
  refine ifP (fun hlt => ⟨_, _, _, _, _, c_spec_l05Behind (t, (n', (h, (ta, (ii, ()))))) a hk ha, ?_⟩) (fun hge => ?_)
  · rw [w64 (by omega)]
    exact ⟨_, by omega, rfl, rfl, by omega, by omega, rfl, by rw [toNat_succ h0, rep, ← hv]⟩
  · rw [show n.toNat = i.toNat by omega, ← hv]; exact ⟨rfl, rfl⟩
def jobM (a : Su) : Su := beh (beh tick a) tick
theorem jobM_ok {a : Su} (ha : okS a) : okS (jobM a) := beh_ok (beh_ok tick_ok ha) tick_ok
theorem c_spec_l09Job (a : Su) (ha : okS a) : TT n_spec_l09Job [suE a] [] (suE (jobM a)) [] :=
  r_spec_l09Job _ _ _ _ _ ⟨_, _, _, _, _, c_spec_l05One 1 false, _, _, _, _, _, c_spec_l05Behind tick a tick_ok ha, _, _, _, _, _, c_spec_l05One 1 false, _, _, _, _, _, c_spec_l05Behind (beh tick a) tick (beh_ok tick_ok ha) tick_ok, rfl, rfl⟩
end Go.Ry
