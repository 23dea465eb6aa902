/- The law of rising edges. No condition. -/
import Derived.Test.YtlphiljackccnaaPGen
set_option linter.unusedVariables false
set_option linter.unusedSimpArgs false
namespace Go.Ry
variable {C : Calls_}

def K_chance (C : Calls_) : Prop := ∀ (n : Int) (l : List Int) (p s : Int), isB l → l.length ≤ 1048576 → (0 ≤ p ∧ p ≤ 2199023255552) ∧ (0 ≤ s ∧ s < 2147483648) → 1 ≤ n ∧ n ≤ 16777216 → ∃ (b : Bool) (p' s' : Int), (p ≤ p' ∧ p' ≤ p + 3) ∧ (0 ≤ s' ∧ s' < 2147483648) ∧
  C n_spec_l00Src_chance [.one (.ptrB 0 0), .one (.int .i64 n)] [srcO l p s] (.one (.bool b)) [srcO l p' s']
theorem p_spec_l00Src_chance (hx : K_next C) (n : Int) (l : List Int) (p s : Int) (hl : isB l) (hn : l.length ≤ 1048576) (h : (0 ≤ p ∧ p ≤ 2199023255552) ∧ (0 ≤ s ∧ s < 2147483648)) (h24 : 1 ≤ n ∧ n ≤ 16777216) :
    ∃ (b : Bool) (p' s' : Int), (p ≤ p' ∧ p' ≤ p + 3) ∧ (0 ≤ s' ∧ s' < 2147483648) ∧ v_spec_l00Src_chance C (fun r os => r = .one (.bool b) ∧ os = [srcO l p' s']) n l p s := by
  obtain ⟨v, p', s', h1, h2, h3, c⟩ := hx n l p s hl hn h h24.2
  exact ⟨_, p', s', h2, h3, _, _, _, _, c, rfl, rfl, rfl⟩
def K_l06Bools (C : Calls_) : Prop := ∀ n : Int, 0 ≤ n ∧ n ≤ 1048576 → C n_spec_l06Bools [.one (.int .i64 n)] [] (.one (.row 0)) [.row t_bool .bool (List.replicate n.toNat false)]
theorem p_spec_l06Bools (n : Int) (hn : 0 ≤ n ∧ n ≤ 1048576) : v_spec_l06Bools C (fun r os => r = .one (.row 0) ∧ os = [.row t_bool .bool (List.replicate n.toNat false)]) n := by
  refine ⟨fun m n' i r => n = n' ∧ 0 ≤ i ∧ i ≤ n ∧ m = (n - i).toNat ∧ r = List.replicate i.toNat false, ⟨_, rfl, by omega, by omega, rfl, rfl⟩, ?_⟩
  rintro m _ i r ⟨rfl, h0, h1, rfl, rfl⟩
  refine ifP (fun hlt => ⟨by simp; omega, _, ?_, rfl, ?_, ?_, rfl, ?_⟩) (fun hge => ?_)
  · rw [w64 (by omega)]; omega
  · rw [w64 (by omega)]; omega
  · rw [w64 (by omega)]; omega
  · rw [w64 (by omega), toNat_succ h0, List.replicate_succ']
  · rw [show i = n by omega]; exact ⟨rfl, rfl⟩
def K_l06Set (C : Calls_) : Prop := ∀ (l : List Bool) (i : Int) (b : Bool), l.length ≤ 1048576 → 0 ≤ i ∧ i < l.length → C n_spec_l06Set [.one (.sl .bool l), .one (.int .i64 i), .one (.bool b)] [] (.one (.row 0)) [.row t_bool .bool (l.set i.toNat b)]
theorem p_spec_l06Set (l : List Bool) (i : Int) (b : Bool) (hl : l.length ≤ 1048576) (hi : 0 ≤ i ∧ i < l.length) : v_spec_l06Set C (fun r os => r = .one (.row 0) ∧ os = [.row t_bool .bool (l.set i.toNat b)]) l i b :=
  ⟨by simp; omega, ⟨hi.1, by simp; omega⟩, rfl, by simp⟩
section
variable (hc : K_chance C) (hb : K_l06Bools C) (hs : K_l06Set C) (src : List Int) (n : Int)
/-- The inner loop: three pins. -/
def pinI1 (b : Int) (m : Nat) (st : List Bool × Int × Int × Int) : Prop := st.1.length = 8 ∧ (0 ≤ st.2.1 ∧ st.2.1 ≤ 3) ∧ m = (3 - st.2.1).toNat ∧ (0 ≤ st.2.2.1 ∧ st.2.2.1 ≤ b + 3 * st.2.1) ∧ (0 ≤ st.2.2.2 ∧ st.2.2.2 < 2147483648)
def pinS1 (C : Calls_) (src : List Int) (st st' : List Bool × Int × Int × Int) : Prop := st.2.1 < 3 ∧ st'.2.1 = st.2.1 + 1 ∧ ∃ b : Bool, C n_spec_l00Src_chance [.one (.ptrB 0 0), .one (.int .i64 8)] [srcO src st.2.2.1 st.2.2.2] (.one (.bool b)) [srcO src st'.2.2.1 st'.2.2.2] ∧
  st'.1 = if b = true then st.1.set st.2.1.toNat (!st.1.getD st.2.1.toNat false) else st.1
def pinD1 (st : List Bool × Int × Int × Int) : Prop := ¬ st.2.1 < 3
@[reducible] def pinR1 (C : Calls_) (src : List Int) (b : Int) := Runs (pinI1 b) (pinS1 C src) pinD1
def pinI2 (n : Int) (m : Nat) (st : List Bool × Int × Int × Int × List (List Bool)) : Prop := st.1.length = 8 ∧ (0 ≤ st.2.1 ∧ st.2.1 ≤ n) ∧ m = (n - st.2.1).toNat ∧ (0 ≤ st.2.2.1 ∧ st.2.2.1 ≤ 9 * st.2.1) ∧ (0 ≤ st.2.2.2.1 ∧ st.2.2.2.1 < 2147483648) ∧ (st.2.2.2.2.length : Int) = st.2.1 ∧ ∀ x, x ∈ st.2.2.2.2 → x.length = 8
def pinS2 (C : Calls_) (src : List Int) (n : Int) (st st' : List Bool × Int × Int × Int × List (List Bool)) : Prop := st.2.1 < n ∧ st'.2.1 = st.2.1 + 1 ∧ (∃ m j, pinR1 C src st.2.2.1 m (st.1, 0, st.2.2.1, st.2.2.2.1) (st'.1, j, st'.2.2.1, st'.2.2.2.1)) ∧ st'.2.2.2.2 = st.2.2.2.2 ++ [st'.1]
def pinD2 (n : Int) (st : List Bool × Int × Int × Int × List (List Bool)) : Prop := ¬ st.2.1 < n
include hc in
theorem go1 (hl : isB src) (hn : src.length ≤ 1048576) (b : Int) (hb : b ≤ 1099511627776) (m : Nat) (st) (h : pinI1 b m st) : ∃ fin, pinR1 C src b m st fin := by
  refine Runs.go ?_ m st h
  rintro m ⟨l, j, p, s⟩ ⟨h1, h2, h3, h4, h5⟩
  simp only at h1 h2 h3 h4 h5
  by_cases hd : j < 3
  · obtain ⟨c, p', s', hp, hs, k⟩ := hc 8 src p s hl hn ⟨by omega, h5⟩ (by omega)
    refine .inr ⟨(3 - (j + 1)).toNat, (if c = true then l.set j.toNat (!l.getD j.toNat false) else l, j + 1, p', s'), by omega, ⟨?_, ⟨by simp; omega, by simp; omega⟩, rfl, ⟨by simp; omega, by simp; omega⟩, hs⟩, hd, rfl, c, k, rfl⟩
    simp only
    split <;> simp [h1]
  · exact .inl hd
include hc in
theorem go2 (hl : isB src) (hn : src.length ≤ 1048576) (hn' : n ≤ 65536) (m : Nat) (st) (h : pinI2 n m st) : ∃ fin, Runs (pinI2 n) (pinS2 C src n) (pinD2 n) m st fin := by
  refine Runs.go ?_ m st h
  rintro m ⟨l, i, p, s, r⟩ ⟨h1, h2, h3, h4, h5, h6, h7⟩
  simp only at h1 h2 h3 h4 h5 h6 h7
  by_cases hd : i < n
  · obtain ⟨⟨l', j, p', s'⟩, hr⟩ := go1 hc src hl hn p (by omega) 3 (l, 0, p, s) ⟨h1, by simp, by simp, ⟨by simp; omega, by simp⟩, h5⟩
    obtain ⟨_, m', g1, g2, g3, g4, g5⟩ := hr.fin
    simp only at g1 g2 g3 g4 g5
    refine .inr ⟨(n - (i + 1)).toNat, (l', i + 1, p', s', r ++ [l']), by omega, ⟨g1, ⟨by simp; omega, by simp; omega⟩, rfl, ⟨by simp; omega, by simp; omega⟩, g5, by simp; omega, ?_⟩, hd, rfl, ⟨_, _, hr⟩, rfl⟩
    intro x hx
    simp only [List.mem_append, List.mem_singleton] at hx
    rcases hx with hx | rfl
    · exact h7 x hx
    · exact g1
  · exact .inl hd
end
def K_inputs (C : Calls_) : Prop := ∀ (n : Int) (l : List Int) (s : Int), isB l → l.length ≤ 1048576 → (0 ≤ s ∧ s < 2147483648) → 0 ≤ n ∧ n ≤ 65536 → ∃ (r : List (List Bool)) (p' s' : Int), ((r.length : Int) = n ∧ ∀ x, x ∈ r → x.length = 8) ∧ (0 ≤ p' ∧ p' ≤ 9 * n) ∧ (0 ≤ s' ∧ s' < 2147483648) ∧
  C n_spec_l00Src_inputs [.one (.ptrB 0 0), .one (.int .i64 n)] [srcO l 0 s] (.one (.row 1)) [srcO l p' s', .row t_Sbool (.slice .bool) r]
theorem p_spec_l00Src_inputs (hc : K_chance C) (hb : K_l06Bools C) (hs : K_l06Set C) (n : Int) (l : List Int) (s : Int) (hl : isB l) (hn : l.length ≤ 1048576) (h : 0 ≤ s ∧ s < 2147483648) (hk : 0 ≤ n ∧ n ≤ 65536) :
    ∃ (r : List (List Bool)) (p' s' : Int), ((r.length : Int) = n ∧ ∀ x, x ∈ r → x.length = 8) ∧ (0 ≤ p' ∧ p' ≤ 9 * n) ∧ (0 ≤ s' ∧ s' < 2147483648) ∧
      v_spec_l00Src_inputs C (fun r' os => r' = .one (.row 1) ∧ os = [srcO l p' s', .row t_Sbool (.slice .bool) r]) n l 0 s := by
  obtain ⟨⟨lf, i_f, pf, sf, rf⟩, hr⟩ := go2 hc l n hl hn (by omega) n.toNat (List.replicate 8 false, 0, 0, s, []) ⟨rfl, ⟨by simp, by simp; omega⟩, by simp, ⟨by simp, by simp⟩, h, by simp, by simp⟩
  obtain ⟨hd, m', g1, g2, g3, g4, g5, g6, g7⟩ := hr.fin
  simp only at g1 g2 g3 g4 g5 g6 g7
  have hd : ¬ i_f < n := hd
  refine ⟨rf, pf, sf, ⟨by omega, g7⟩, ⟨g4.1, by omega⟩, g5, _, hb 8 (by omega), rfl, ?_⟩
  refine ⟨fun m n' l' i src p s' r => n = n' ∧ l = src ∧ Runs (pinI2 n) (pinS2 C l n) (pinD2 n) m (l', i, p, s', r) (lf, i_f, pf, sf, rf), ⟨_, rfl, rfl, hr⟩, ?_⟩
  rintro m _ l' i _ p s' r ⟨rfl, rfl, hr⟩
  have hi := hr.inv
  obtain ⟨i1, i2, i3, i4, i5, i6, i7⟩ := hi
  simp only at i1 i2 i3 i4 i5 i6 i7
  cases hr with
  | done _ hd' =>
    exact ifP_f hd' ⟨rfl, rfl⟩
  | @step _ _ m2 st2 _ hi2 hm hst hr2 =>
    obtain ⟨l2, i2', p2, s2, r2⟩ := st2
    obtain ⟨e1, e2, ⟨m1, j1, hr1⟩, e3⟩ := hst
    simp only at e1 e2 e3 hr1
    subst e2; subst e3
    refine ifP_t e1 ⟨fun m1 n' l' i' j src p' s' r' => n = n' ∧ i = i' ∧ l = src ∧ r = r' ∧ pinR1 C l p m1 (l', j, p', s') (l2, j1, p2, s2), ⟨_, rfl, rfl, rfl, rfl, hr1⟩, ?_⟩
    rintro m1 _ l' _ j _ p' s' _ ⟨rfl, rfl, rfl, rfl, hr1⟩
    obtain ⟨q1, q2, q3, q4, q5⟩ := hr1.inv
    simp only at q1 q2 q3 q4 q5
    cases hr1 with
    | done _ hd' =>
      refine ifP_f hd' ⟨by simp; omega, m2, hm, ?_⟩
      rw [w64 (by omega)]
      exact ⟨rfl, rfl, hr2⟩
    | @step _ _ m3 st3 _ _ hm3 hst3 hr3 =>
      obtain ⟨l3, j3, p3, s3⟩ := st3
      obtain ⟨f1, f2, b, k, f3⟩ := hst3
      simp only at f1 f2 f3 k
      subst f2
      refine ifP_t f1 ⟨_, _, _, _, k, rfl, ifB_cases (fun hb => ?_) (fun hb => ?_)⟩
      · rw [if_pos hb] at f3
        subst f3
        refine ⟨⟨by omega, by omega⟩, _, hs l' j _ (by omega) (by omega), rfl, m3, hm3, ?_⟩
        rw [w64 (by omega)]
        exact ⟨rfl, rfl, rfl, rfl, hr3⟩
      · rw [if_neg (by simp [hb])] at f3
        subst f3
        refine ⟨m3, hm3, ?_⟩
        rw [w64 (by omega)]
        exact ⟨rfl, rfl, rfl, rfl, hr3⟩
def K_InputsDrawn (C : Calls_) : Prop := ∀ (l : List Int) (n : Int), isB l → l.length ≤ 1048576 → 0 ≤ n ∧ n ≤ 65536 → ∃ r : List (List Bool), ((r.length : Int) = n ∧ ∀ x, x ∈ r → x.length = 8) ∧
  C n_spec_InputsDrawn [.one (.sl (.int .u8) l), .one (.int .i64 n)] [] (.one (.row 0)) [.row t_Sbool (.slice .bool) r]
theorem p_spec_InputsDrawn (hs : K_Source C) (hi : K_inputs C) (l : List Int) (n : Int) (hl : isB l) (hn : l.length ≤ 1048576) (hk : 0 ≤ n ∧ n ≤ 65536) :
    ∃ r : List (List Bool), ((r.length : Int) = n ∧ ∀ x, x ∈ r → x.length = 8) ∧ v_spec_InputsDrawn C (fun r' os => r' = .one (.row 0) ∧ os = [.row t_Sbool (.slice .bool) r]) l n := by
  obtain ⟨r, p, s, h1, h2, h3, c⟩ := hi n l ((l.length : Int) % 1000) hl hn ⟨by omega, by omega⟩ hk
  exact ⟨r, h1, _, _, _, hs l hn, rfl, _, _, _, _, c, rfl, rfl, rfl⟩
def K_sameInts (C : Calls_) : Prop := ∀ l : List Int, l.length ≤ 1048576 → C n_laws_sameInts [.one (.sl (.int .i64) l), .one (.sl (.int .i64) l)] [] (.one (.bool true)) []
theorem p_laws_sameInts (l : List Int) (h : l.length ≤ 1048576) : v_laws_sameInts C (fun r os => r = .one (.bool true) ∧ os = []) l l := by
  refine ifN_f rfl ⟨fun m a b i => l = a ∧ l = b ∧ 0 ≤ i ∧ i ≤ l.length ∧ m = (l.length - i).toNat, ⟨_, rfl, rfl, by omega, by omega, rfl⟩, ?_⟩
  rintro m _ _ i ⟨rfl, rfl, h0, h1, rfl⟩
  refine ifP (fun hlt => ⟨⟨h0, hlt⟩, ⟨h0, hlt⟩, ifN_f rfl ⟨_, ?_, rfl, rfl, ?_, ?_, rfl⟩⟩) (fun hge => ⟨rfl, rfl⟩)
  all_goals rw [w64 (by omega)]
  all_goals omega
theorem p_laws_FnRises (hi : K_InputsDrawn C) (h1 : K_implRisesOf C) (h2 : K_specRisesOf C) (hs : K_sameInts C) (l1 l2 : List Int) (hb1 : isB l1) : v_laws_FnRises C (fun r os => r = .one (.bool true) ∧ os = []) l1 l2 := by
  refine ifP (fun _ => ⟨rfl, rfl⟩) (fun c1 => ifP (fun _ => ⟨rfl, rfl⟩) (fun c2 => ?_))
  obtain ⟨r, ⟨hr1, hr2⟩, cr⟩ := hi l1 12 hb1 (by omega) (by omega)
  have e8 : ∀ i : Nat, i < 12 → (r.getD i []).length = 8 := fun i h => by
    rw [List.getD_eq_getElem?_getD, List.getElem?_eq_getElem (by omega)]
    exact hr2 _ (List.getElem_mem _)
  refine ⟨_, cr, rfl, True, ⟨fun m i r' => r = r' ∧ 1 ≤ i ∧ i ≤ 12 ∧ m = (12 - i).toNat, ⟨_, rfl, by omega, by omega, rfl⟩, ?_⟩, fun _ => ?_⟩
  · rintro m i _ ⟨rfl, h3, h4, rfl⟩
    rw [w64 (x := i - 1) (by omega), w64 (x := i + 1) (by omega)]
    refine ifP (fun hlt => ?_) (fun hge => trivial)
    have ea := e8 (i - 1).toNat (by omega)
    have eb := e8 i.toNat (by omega)
    generalize r.getD (i - 1).toNat [] = a at ea
    generalize r.getD i.toNat [] = b at eb
    have e : risesR a b = (0, rises a b 8) := by
      unfold risesR
      rw [if_neg (by omega), if_neg (by omega), if_neg (by omega), if_neg (by omega)]
    have hl := rises_length a b 8
    have k1 := h1 a b
    have k2 := h2 a b
    rw [e] at k1 k2
    exact ⟨⟨by omega, by omega⟩, ⟨by omega, by omega⟩, _, _, k1, rfl, ⟨by omega, by omega⟩, ⟨by omega, by omega⟩, _, _, k2, rfl, ifN_f rfl ⟨_, hs (rises a b 8) (by omega), rfl, ifB_f rfl ⟨_, by omega, rfl, by omega, by omega, rfl⟩⟩⟩
  · refine ⟨rfl, ⟨by omega, by omega⟩, _, _, h1 _ _, rfl, ?_⟩
    have e : risesR (List.replicate (Int.toNat 8) false) [true, true, true, true, true, true, true, true] = (0, [0, 1, 2, 3, 4, 5, 6, 7]) := by decide
    rw [e]
    exact ifB_t rfl ⟨rfl, rfl⟩
def K_FnRises (C : Calls_) : Prop := ∀ l1 l2 : List Int, isB l1 → C n_laws_FnRises [.one (.sl (.int .u8) l1), .one (.sl (.int .u8) l2)] [] (.one (.bool true)) []
end Go.Ry
