/- Texts Bnd1, Bnd2, Bnd3, Bnd4, one behind the other. No condition. -/
import Derived.Test.YtopchiaiefkehaaGreatPLoad1
set_option linter.unusedVariables false
set_option linter.unusedSimpArgs false
namespace Go.Ry
open Go.Proofs

abbrev Bd := Int × Int × Int × Int × Unit
@[reducible] def tBd : Ty := .pair (.int .i64) (.pair (.int .i64) (.pair (.int .i64) (.pair (.int .i64) .unit)))
@[reducible] def dBd : Bd := ((0 : Int), ((0 : Int), ((0 : Int), ((0 : Int), ()))))
def max2 (b n : Int) : Int := if n > b then n else b
def longM (a : Su) : Int := max2 (max2 (max2 a.2.1 a.2.2.1) a.2.2.2.1) a.2.2.2.2.1
theorem max2_ok {a b : Int} (ha : okN a) (hb : okN b) : okN (max2 a b) := by unfold max2; split <;> assumption
theorem longM_ok {a : Su} (ha : okS a) : okN (longM a) := max2_ok (max2_ok (max2_ok ha.n ha.h) ha.l) ha.i
theorem c_impl_longest (a : Su) : TT n_impl_longest [suE a] [] (eI (longM a)) [] := r_impl_longest _ _ _ _ _ ⟨rfl, rfl⟩
theorem c_spec_l05Longest (a : Su) : TT n_spec_l05Longest [suE a] [] (eI (longM a)) [] := r_spec_l05Longest _ _ _ _ _ ⟨rfl, rfl⟩

/-- What may come within n ticks, and what may be ahead of it. -/
def demL (n : Int) : List Int → List Int → Int → Int
  | c :: cs, p :: ps, b => demL n cs ps (b + c * ceilM n p)
  | _, _, b => b
theorem demL_cons {n c p b : Int} {cs ps : List Int} : demL n (c :: cs) (p :: ps) b = demL n cs ps (b + c * ceilM n p) := rfl
structure CP (cs ps : List Int) : Prop where
  len : cs.length = ps.length
  five : cs.length ≤ 5
  c : ∀ i : Nat, i < cs.length → 0 ≤ cs.getD i 0 ∧ cs.getD i 0 ≤ 5000
  p : ∀ i : Nat, i < ps.length → 1 ≤ ps.getD i 0 ∧ ps.getD i 0 ≤ 5000
theorem mulB {c q : Int} (hc : 0 ≤ c ∧ c ≤ 5000) (hq : 0 ≤ q ∧ q ≤ 9999) : 0 ≤ c * q ∧ c * q ≤ 49995000 := by
  have h1 := Int.mul_nonneg hc.1 hq.1
  have h2 := Int.mul_le_mul hc.2 hq.2 hq.1 (by omega : (0 : Int) ≤ 5000)
  omega
theorem demL_range {n : Int} (hn : 1 ≤ n ∧ n ≤ 5000) {cs ps : List Int} (h : CP cs ps) : ∀ (k i : Nat) (b : Int), cs.length - i = k → i ≤ cs.length → 0 ≤ b → b ≤ demL n (cs.drop i) (ps.drop i) b ∧ demL n (cs.drop i) (ps.drop i) b ≤ b + 49995000 * (cs.length - i) := by
  intro k
  induction k with
  | zero =>
    intro i b hk hi hb
    have : i = cs.length := by omega
    subst this
    rw [List.drop_length]
    simp only [demL]
    omega
  | succ k ih =>
    intro i b hk hi hb
    have hi' : i < cs.length := by omega
    rw [drop_getD hi' 0, drop_getD (l := ps) (by rw [← h.len]; exact hi') 0, demL_cons]
    have h1 := h.c i hi'
    have h2 := h.p i (by rw [← h.len]; exact hi')
    have h3 := ceil_range (a := n) (b := ps.getD i 0) (by omega) h2.1
    have h4 := mulB (c := cs.getD i 0) (q := ceilM n (ps.getD i 0)) h1 (by omega)
    have := ih (i + 1) (b + cs.getD i 0 * ceilM n (ps.getD i 0)) (by omega) (by omega) (by omega)
    have e : ((cs.length : Int) - i) = ((cs.length : Int) - ((i + 1 : Nat) : Int)) + 1 := by omega
    rw [e, Int.mul_add]
    omega
theorem dem_range {n b : Int} (hn : 1 ≤ n ∧ n ≤ 5000) {cs ps : List Int} (h : CP cs ps) (hb : 0 ≤ b) : b ≤ demL n cs ps b ∧ demL n cs ps b ≤ b + 249975000 := by
  have := demL_range hn h cs.length 0 b (by omega) (by omega) hb
  have h5 := h.five
  simp only [List.drop_zero] at this
  omega
def busyF (cs ps : List Int) (b : Int) : Nat → Int → Int × Bool
  | 0, _ => (0, false)
  | f + 1, n => if n ≤ 5000 then (if demL n cs ps b ≤ n then (n, true) else busyF cs ps b f (demL n cs ps b)) else (0, false)
theorem busyF_succ {cs ps : List Int} {b : Int} {f : Nat} {n : Int} : busyF cs ps b (f + 1) n = if n ≤ 5000 then (if demL n cs ps b ≤ n then (n, true) else busyF cs ps b f (demL n cs ps b)) else (0, false) := rfl
def busyM (cs ps : List Int) (b : Int) : Int × Bool := busyF cs ps b 5002 1
@[reducible] def tupIB (n : Int) (b : Bool) : Ent := .tup [(false, [cI n]), (false, [.bool b])]
theorem c_spec_l09Demand (cs ps : List Int) (b n : Int) (h : CP cs ps) (hn : 1 ≤ n ∧ n ≤ 5000) (hb : 0 ≤ b ∧ b ≤ 2147483647) : TT n_spec_l09Demand [.one (.sl (.int .i64) cs), .one (.sl (.int .i64) ps), eI b, eI n] [] (eI (demL n cs ps b)) [] := by
  have h5 := h.five
  refine r_spec_l09Demand cs ps b n ⟨fun m s i => 0 ≤ i ∧ i ≤ cs.length ∧ m = (cs.length - i).toNat ∧ 0 ≤ s ∧ s ≤ 2147483647 + 49995000 * i ∧ demL n (cs.drop i.toNat) (ps.drop i.toNat) s = demL n cs ps b,
    ⟨_, rfl, by omega, by omega, rfl, by omega, by omega, rfl⟩, ?_⟩
  rintro m s i ⟨h0, h1, rfl, s0, s1, hv⟩
  refine ifP (fun hlt => ?_) (fun hge => ?_)
  · have hi : i.toNat < cs.length := by omega
    have hp : i.toNat < ps.length := by rw [← h.len]; exact hi
    have q1 := h.c _ hi
    have q2 := h.p _ hp
    rw [drop_getD hi 0, drop_getD (l := ps) hp 0, demL_cons] at hv
    revert hv q1 q2
    generalize cs.getD i.toNat 0 = c
    generalize ps.getD i.toNat 0 = p
    intro hv q1 q2
    have h3 := ceil_range (a := n) (b := p) (by omega) q2.1
    have h4 := mulB (c := c) (q := ceilM n p) q1 (by omega)
    have hl := h.len
    refine ⟨⟨h0, by omega⟩, ⟨h0, by omega⟩, by omega, ⟨h0, hlt⟩, ?_⟩
    rw [ceil_eq (by omega) q2, w64 (x := ceilM n p * c) (by rw [Int.mul_comm]; omega), Int.mul_comm (ceilM n p) c, w64 (x := s + _) (by omega), w64 (x := i + 1) (by omega)]
    exact ⟨_, by omega, rfl, by omega, by omega, rfl, by omega, by omega, by rw [toNat_succ h0]; exact hv⟩
  · have e : i.toNat = cs.length := by omega
    rw [e, List.drop_length] at hv
    simp only [demL] at hv
    rw [hv]; exact ⟨rfl, rfl⟩
theorem c_spec_l09Busy (cs ps : List Int) (b : Int) (h : CP cs ps) (hb : 0 ≤ b ∧ b ≤ 2147483647) : TT n_spec_l09Busy [.one (.sl (.int .i64) cs), .one (.sl (.int .i64) ps), eI b] [] (tupIB (busyM cs ps b).1 (busyM cs ps b).2) [] := by
  have d1 := dem_range (n := 1) (b := b) (by omega) h hb.1
  refine r_spec_l09Busy cs ps b ⟨_, c_spec_l09Demand cs ps b 1 h (by omega) hb, fun m n => 1 ≤ n ∧ n ≤ 3000000000 ∧ 5001 - n < (m : Int) ∧ busyF cs ps b m n = busyM cs ps b, ?_, ?_⟩
  · by_cases hd : 1 > demL 1 cs ps b
    · rw [if_pos hd]
      exact ⟨5002, rfl, by omega, by omega, by omega, rfl⟩
    · rw [if_neg hd]
      by_cases he : demL 1 cs ps b ≤ 1
      · have : demL 1 cs ps b = 1 := by omega
        rw [this]
        exact ⟨5002, rfl, by omega, by omega, by omega, rfl⟩
      · refine ⟨5001, rfl, by omega, by omega, by omega, ?_⟩
        have e := @busyF_succ cs ps b 5001 1
        rw [if_pos (by omega), if_neg he] at e
        exact e.symm
  · rintro m n ⟨h0, h1, h2, hv⟩
    refine ifP (fun hn => ?_) (fun hn => ?_)
    · have dn := dem_range (n := n) (b := b) (by omega) h hb.1
      refine ⟨_, c_spec_l09Demand cs ps b n h (by omega) hb, ?_⟩
      obtain ⟨f, rfl⟩ : ∃ f, m = f + 1 := ⟨m - 1, by omega⟩
      rw [busyF_succ, if_pos hn] at hv
      refine ifP (fun hle => ?_) (fun hgt => ?_)
      · rw [if_pos hle] at hv
        rw [← hv]; exact ⟨rfl, rfl⟩
      · rw [if_neg hgt] at hv
        exact ⟨f, by omega, rfl, by omega, by omega, by omega, hv⟩
    · cases m with
      | zero => rw [← hv]; exact ⟨rfl, rfl⟩
      | succ f =>
        rw [busyF_succ, if_neg hn] at hv
        rw [← hv]; exact ⟨rfl, rfl⟩
theorem c_impl_busy (cs ps : List Int) (b : Int) (h : CP cs ps) (hb : 0 ≤ b ∧ b ≤ 2147483647) : TT n_impl_busy [.one (.sl (.int .i64) cs), .one (.sl (.int .i64) ps), eI b] [] (tupIB (busyM cs ps b).1 (busyM cs ps b).2) [] := by
  have h5 := h.five
  refine r_impl_busy cs ps b ⟨fun m n => 1 ≤ n ∧ n ≤ 3000000000 ∧ 5001 - n < (m : Int) ∧ busyF cs ps b m n = busyM cs ps b, ⟨5002, rfl, by omega, by omega, by omega, rfl⟩, ?_⟩
  rintro m n ⟨h0, h1, h2, hv⟩
  refine ifP (fun hn => ?_) (fun hn => ?_)
  · have dn := dem_range (n := n) (b := b) (by omega) h hb.1
    refine ⟨fun n' s => n' = n ∧ s = demL n cs ps b, ?_, ?_⟩
    · refine ⟨fun m n' s i => 0 ≤ i ∧ i ≤ cs.length ∧ m = (cs.length - i).toNat ∧ n' = n ∧ 0 ≤ s ∧ s ≤ 2147483647 + 49995000 * i ∧ demL n (cs.drop i.toNat) (ps.drop i.toNat) s = demL n cs ps b,
        ⟨_, rfl, by omega, by omega, rfl, rfl, by omega, by omega, rfl⟩, ?_⟩
      rintro m n' s i ⟨i0, i1, rfl, rfl, s0, s1, hv'⟩
      refine ifP (fun hlt => ?_) (fun hge => ?_)
      · have hi : i.toNat < cs.length := by omega
        have hp : i.toNat < ps.length := by rw [← h.len]; exact hi
        have q1 := h.c _ hi
        have q2 := h.p _ hp
        rw [drop_getD hi 0, drop_getD (l := ps) hp 0, demL_cons] at hv'
        revert hv' q1 q2
        generalize cs.getD i.toNat 0 = c
        generalize ps.getD i.toNat 0 = p
        intro hv' q1 q2
        have h3 := ceil_range (a := n') (b := p) (by omega) q2.1
        have h4 := mulB (c := c) (q := ceilM n' p) q1 (by omega)
        have hl := h.len
        refine ⟨⟨i0, hlt⟩, ⟨i0, by omega⟩, _, c_impl_ceil _ _ (by omega) q2, ?_⟩
        rw [w64 (x := c * ceilM n' p) (by omega), w64 (x := s + _) (by omega), w64 (x := i + 1) (by omega)]
        exact ⟨_, by omega, rfl, by omega, by omega, rfl, rfl, by omega, by omega, by rw [toNat_succ i0]; exact hv'⟩
      · have e : i.toNat = cs.length := by omega
        rw [e, List.drop_length] at hv'
        simp only [demL] at hv'
        exact ⟨rfl, rfl, hv'⟩
    · rintro n' s ⟨rfl, rfl⟩
      obtain ⟨f, rfl⟩ : ∃ f, m = f + 1 := ⟨m - 1, by omega⟩
      rw [busyF_succ, if_pos hn] at hv
      refine ifP (fun hle => ?_) (fun hgt => ?_)
      · rw [if_pos hle] at hv
        rw [← hv]; exact ⟨rfl, rfl⟩
      · rw [if_neg hgt] at hv
        exact ⟨f, by omega, rfl, by omega, by omega, by omega, hv⟩
  · cases m with
    | zero => rw [← hv]; exact ⟨rfl, rfl⟩
    | succ f =>
      rw [busyF_succ, if_neg hn] at hv
      rw [← hv]; exact ⟨rfl, rfl⟩
end Go.Ry

set_option linter.unusedVariables false
set_option linter.unusedSimpArgs false
namespace Go.Ry
open Go.Proofs

def rawB (cs : List Su) (t : Tsk) : Bd := ((jobM (suAt cs t.2.2.2.2.2.1)).1, (longM (jobM (suAt cs t.2.2.2.2.2.1)), (0, (0, ()))))
def rawL (cs : List Su) (ts : List Tsk) : List Bd := ts.map (rawB cs)
def setB (y : Bd) (b : Int) : Bd := (y.1, (y.2.1, (b, (y.2.2.2.1, ()))))
def setN (y : Bd) (n : Int) : Bd := (y.1, (y.2.1, (y.2.2.1, (n, ()))))
def accB : List Bd → Int → Int
  | [], b => b
  | y :: l, b => accB l (if y.2.1 > b then y.2.1 else b)
theorem accB_cons {y : Bd} {l : List Bd} {b : Int} : accB (y :: l) b = accB l (if y.2.1 > b then y.2.1 else b) := rfl
def blkL : List Bd → List Bd
  | [] => []
  | y :: l => setB y (accB l y.2.2.1) :: blkL l
theorem blkL_len : ∀ l : List Bd, (blkL l).length = l.length
  | [] => rfl
  | y :: l => by simp [blkL, blkL_len l]
theorem blkL_drop : ∀ (l : List Bd) (i : Nat), (blkL l).drop i = blkL (l.drop i)
  | [], i => by simp [blkL]
  | y :: l, 0 => rfl
  | y :: l, i + 1 => by simp only [blkL, List.drop_succ_cons]; exact blkL_drop l i
/-- The first task that costs too much. -/
def badC : List Bd → Int → Int
  | [], _ => -1
  | y :: l, i => if y.1 > 5000 then i else badC l (i + 1)
theorem badC_cons {y : Bd} {l : List Bd} {i : Int} : badC (y :: l) i = if y.1 > 5000 then i else badC l (i + 1) := rfl
theorem badC_blk : ∀ (l : List Bd) (i : Int), badC (blkL l) i = badC l i
  | [], _ => rfl
  | y :: l, i => by
    simp only [blkL, badC_cons, badC_blk l]
    rfl
theorem badC_ge : ∀ {l : List Bd} {i : Int}, 0 ≤ i → badC l i = -1 ∨ i ≤ badC l i
  | [], _, _ => .inl rfl
  | y :: l, i, h => by
    rw [badC_cons]
    split
    · exact .inr (by omega)
    · rcases badC_ge (l := l) (i := i + 1) (by omega) with h1 | h1
      · exact .inl h1
      · exact .inr (by omega)
theorem badC_none : ∀ {l : List Bd} {i : Int}, 0 ≤ i → badC l i = -1 → ∀ k : Nat, k < l.length → (l.getD k dBd).1 ≤ 5000
  | [], _, _, _, k, hk => by simp at hk
  | y :: l, i, h, hb, k, hk => by
    rw [badC_cons] at hb
    split at hb
    · omega
    · cases k with
      | zero => simp; omega
      | succ k => simpa using badC_none (l := l) (i := i + 1) (by omega) hb k (by simpa using hk)
/-- The bounds, task by task. -/
def bndG : List Bd → List Tsk → List Int → List Int → List Bd → Int → List Bd × Int × Bool
  | y :: l, t :: ts, cs, ps, acc, i => if (busyM (cs ++ [y.1]) (ps ++ [t.2.1]) y.2.2.1).2 = true then bndG l ts (cs ++ [y.1]) (ps ++ [t.2.1]) (acc ++ [setN y (busyM (cs ++ [y.1]) (ps ++ [t.2.1]) y.2.2.1).1]) (i + 1) else ([], i, false)
  | _, _, _, _, acc, _ => (acc, 0, true)
theorem bndG_cons {y : Bd} {l : List Bd} {t : Tsk} {ts : List Tsk} {cs ps : List Int} {acc : List Bd} {i : Int} : bndG (y :: l) (t :: ts) cs ps acc i =
    if (busyM (cs ++ [y.1]) (ps ++ [t.2.1]) y.2.2.1).2 = true then bndG l ts (cs ++ [y.1]) (ps ++ [t.2.1]) (acc ++ [setN y (busyM (cs ++ [y.1]) (ps ++ [t.2.1]) y.2.2.1).1]) (i + 1) else ([], i, false) := rfl
def bndM (cs : List Su) (ts : List Tsk) : List Bd × Int × Bool := if 0 ≤ badC (rawL cs ts) 0 then ([], badC (rawL cs ts) 0, false) else bndG (blkL (rawL cs ts)) ts [] [] [] 0
theorem rawL_len {cs : List Su} {ts : List Tsk} : (rawL cs ts).length = ts.length := by simp [rawL]
theorem rawL_at {cs : List Su} {ts : List Tsk} {i : Nat} (hi : i < ts.length) : (rawL cs ts).getD i dBd = rawB cs (tskAt ts i) := by
  simp [rawL, tskAt, List.getD_eq_getElem?_getD, List.getElem?_eq_getElem hi]

/-- In the middle of a list. -/
theorem mid_at {α : Type} {acc l : List α} {z d : α} {i : Nat} (h : acc.length = i) : (acc ++ z :: l).getD i d = z := by
  subst h
  rw [List.getD_eq_getElem?_getD, List.getElem?_append_right (Nat.le_refl _), Nat.sub_self]; rfl
theorem mid_set {α : Type} {acc l : List α} {z y : α} {i : Nat} (h : acc.length = i) : (acc ++ z :: l).set i y = acc ++ y :: l := by
  subst h
  rw [List.set_append_right _ _ (Nat.le_refl _), Nat.sub_self]; rfl
theorem mid_after {α : Type} {acc l : List α} {z d : α} {i j : Nat} (h : acc.length = i) : (acc ++ z :: l).getD (i + 1 + j) d = l.getD j d := by
  subst h
  rw [List.getD_eq_getElem?_getD, List.getElem?_append_right (by omega), show acc.length + 1 + j - acc.length = j + 1 by omega, List.getElem?_cons_succ, List.getD_eq_getElem?_getD]

structure RawOK (l : List Bd) : Prop where
  hc : ∀ k : Nat, k < l.length → 0 ≤ (l.getD k dBd).1 ∧ (l.getD k dBd).1 ≤ 2147483647
  hl : ∀ k : Nat, k < l.length → -1 ≤ (l.getD k dBd).2.1 ∧ (l.getD k dBd).2.1 ≤ 2147483647
  hb : ∀ k : Nat, k < l.length → (l.getD k dBd).2.2.1 = 0
theorem accB_range {l : List Bd} (h : ∀ k : Nat, k < l.length → (l.getD k dBd).2.1 ≤ 2147483647) : ∀ {b : Int}, 0 ≤ b → b ≤ 2147483647 → 0 ≤ accB l b ∧ accB l b ≤ 2147483647 := by
  induction l with
  | nil => intro b h0 h1; exact ⟨h0, h1⟩
  | cons y l ih =>
    intro b h0 h1
    rw [accB_cons]
    have hy := h 0 (by simp)
    simp at hy
    refine ih (fun k hk => by simpa using h (k + 1) (by simp; omega)) ?_ ?_
    · split <;> omega
    · split <;> omega
theorem blkL_at {l : List Bd} {i : Nat} (hi : i < l.length) : (blkL l).getD i dBd = setB (l.getD i dBd) (accB (l.drop (i + 1)) (l.getD i dBd).2.2.1) := by
  have h1 : (blkL l).drop i = (blkL l).getD i dBd :: (blkL l).drop (i + 1) := drop_getD (by rw [blkL_len]; exact hi) dBd
  rw [blkL_drop, drop_getD hi dBd, blkL] at h1
  exact (List.cons.inj h1).1.symm
theorem raw_ok {cs : List Su} {rs : List Rou} {ks : List Int} {ts : List Tsk} {sf : List Bool} (h : PrgFit ks rs ts sf) (hc : allOk cs) (hl : cs.length = rs.length) : RawOK (rawL cs ts) := by
  have key : ∀ k : Nat, k < ts.length → okS (jobM (suAt cs (tskAt ts k).2.2.2.2.2.1)) := fun k hk => by
    have ht := (h.task hk).2
    exact jobM_ok (hc.at (i := (tskAt ts k).2.2.2.2.2.1.toNat) (by omega))
  refine ⟨fun k hk => ?_, fun k hk => ?_, fun k hk => ?_⟩ <;> rw [rawL_len] at hk <;> rw [rawL_at hk]
  · exact (key k hk).t
  · exact longM_ok (key k hk)
  · rfl
end Go.Ry

set_option linter.unusedVariables false
set_option linter.unusedSimpArgs false
namespace Go.Ry
open Go.Proofs

@[reducible] def bndE (i : Int) (b : Bool) : Ent := .tup [(false, [.row 0]), (false, [cI i]), (false, [.bool b])]
@[reducible] def bndO (l : List Bd) : List Ob := [.row t_impl_Bound tBd l]
theorem take_map_snoc {α β : Type} {f : α → β} {l : List α} {i : Nat} (hi : i < l.length) (d : α) : (l.take (i + 1)).map f = (l.take i).map f ++ [f (l.getD i d)] := by
  rw [take_succ_getD hi d, List.map_append]; rfl
@[reducible] def per (t : Tsk) : Int := t.2.1
theorem map_getD {α β : Type} {f : α → β} {l : List α} {i : Nat} (hi : i < l.length) (d : α) (e : β) : (l.map f).getD i e = f (l.getD i d) := by
  simp [List.getD_eq_getElem?_getD, List.getElem?_eq_getElem hi]
/-- The costs and periods of the tasks so far. -/
theorem cp_take {raw : List Bd} {ts : List Tsk} {i : Nat} (hr : RawOK raw) (hlen : raw.length = ts.length) (h5 : ts.length ≤ 5) (hb : badC raw 0 = -1) (hp : ∀ k : Nat, k < ts.length → 1 ≤ (tskAt ts k).2.1 ∧ (tskAt ts k).2.1 ≤ 5000) (hi : i ≤ raw.length) :
    CP ((raw.take i).map (·.1)) ((ts.take i).map per) := by
  have g1 : ∀ k : Nat, k < i → ((raw.take i).map (·.1)).getD k 0 = (raw.getD k dBd).1 := fun k hk => by
    rw [map_getD (by rw [List.length_take]; omega) dBd, List.getD_eq_getElem?_getD, List.getElem?_take_of_lt hk, List.getD_eq_getElem?_getD]
  have g2 : ∀ k : Nat, k < i → ((ts.take i).map per).getD k 0 = (tskAt ts k).2.1 := fun k hk => by
    rw [map_getD (by rw [List.length_take]; omega) ((0 : Int), ((0 : Int), ((0 : Int), ((0 : Int), ((0 : Int), ((0 : Int), ())))))), List.getD_eq_getElem?_getD, List.getElem?_take_of_lt hk, tskAt, List.getD_eq_getElem?_getD]
  refine ⟨by simp; omega, by simp; omega, fun k hk => ?_, fun k hk => ?_⟩
  · have hk' : k < i := by simp at hk; omega
    rw [g1 k hk']
    exact ⟨(hr.hc k (by omega)).1, badC_none (by omega) hb k (by omega)⟩
  · have hk' : k < i := by simp at hk; omega
    rw [g2 k hk']
    exact hp k (by omega)
theorem setB_setB (y : Bd) (a b : Int) : setB (setB y a) b = setB y b := rfl

theorem c_spec_l09Bounds (ks : List Int) (rs : List Rou) (ts : List Tsk) (sf : List Bool) (hf : PrgFit ks rs ts sf) :
    TT n_spec_l09Bounds [prgE ks rs ts sf] [] (bndE (bndM (costsM rs) ts).2.1 (bndM (costsM rs) ts).2.2) (bndO (bndM (costsM rs) ts).1) := by
  obtain ⟨c1, c2⟩ := costs_all hf.rous
  have h5 := hf.ts5
  have hr := raw_ok hf c1 c2
  have hrl := rawL_len (cs := costsM rs) (ts := ts)
  generalize hB : bndM (costsM rs) ts = B
  refine r_spec_l09Bounds ks rs ts sf ⟨_, c_spec_l05Costs rs hf.rous, fun a b c => a = rawL (costsM rs) ts ∧ b = (rawL (costsM rs) ts).map (·.1) ∧ c = ts.map per ∧ badC (rawL (costsM rs) ts) 0 = -1, ?_, ?_⟩
  · refine ⟨fun m i cs a b c => 0 ≤ i ∧ i ≤ ts.length ∧ m = (ts.length - i).toNat ∧ cs = costsM rs ∧ a = (rawL (costsM rs) ts).take i.toNat ∧ b = ((rawL (costsM rs) ts).take i.toNat).map (·.1) ∧ c = (ts.take i.toNat).map per ∧
      badC ((rawL (costsM rs) ts).drop i.toNat) i = badC (rawL (costsM rs) ts) 0, ⟨_, rfl, by omega, by omega, rfl, rfl, rfl, rfl, rfl, rfl⟩, ?_⟩
    rintro m i cs a b c ⟨h0, h1, rfl, rfl, rfl, rfl, rfl, hv⟩
    refine ifP (fun hlt => ?_) (fun hge => ?_)
    · have hi : i.toNat < ts.length := by omega
      have ht := hf.task (k := i.toNat) hi
      have hat := rawL_at (cs := costsM rs) hi
      rw [drop_getD (by omega) dBd, badC_cons, hat] at hv
      have t1 := take_succ_getD (l := rawL (costsM rs) ts) (i := i.toNat) (by omega) dBd
      have t2 := take_map_snoc (f := (·.1)) (l := rawL (costsM rs) ts) (i := i.toNat) (by omega) dBd
      have t3 := take_map_snoc (f := per) (l := ts) (i := i.toNat) hi ((0 : Int), ((0 : Int), ((0 : Int), ((0 : Int), ((0 : Int), ((0 : Int), ()))))))
      rw [hat] at t1 t2
      have hs := c1.at (i := (tskAt ts i.toNat).2.2.2.2.2.1.toNat) (by omega)
      have q1 : ((rawL (costsM rs) ts).take i.toNat).length = i.toNat := by rw [List.length_take]; omega
      have q2 : (ts.take i.toNat).length = i.toNat := by rw [List.length_take]; omega
      refine ⟨⟨h0, hlt⟩, ⟨ht.2.1, by rw [c2]; exact ht.2.2⟩, _, _, _, _, _, c_spec_l09Job _ hs, ?_⟩
      refine ifP (fun hbad => ?_) (fun hok => ?_)
      · have e : bndM (costsM rs) ts = ([], i, false) := by
          rw [if_pos (show (rawB (costsM rs) (tskAt ts i.toNat)).1 > 5000 from hbad)] at hv
          unfold bndM
          rw [← hv, if_pos h0]
        rw [← hB, e]; exact ⟨rfl, rfl⟩
      · rw [if_neg (show ¬ (rawB (costsM rs) (tskAt ts i.toNat)).1 > 5000 from hok)] at hv
        rw [w64 (x := i + 1) (by omega)]
        refine ⟨by simp [q1]; omega, ⟨h0, hlt⟩, by simp [q2]; omega, _, c_spec_l05Longest _, by simp [q1]; omega, _, ?_, rfl, by omega, by omega, rfl, rfl, ?_, ?_, ?_, ?_⟩
        · omega
        · rw [toNat_succ h0, t1]; rfl
        · rw [toNat_succ h0, t2]; rfl
        · rw [toNat_succ h0, t3]
        · rw [toNat_succ h0]; exact hv
    · have e : i.toNat = ts.length := by omega
      rw [e, ← hrl, List.drop_length] at hv
      rw [e]
      exact ⟨by rw [← hrl, List.take_length], by rw [← hrl, List.take_length], by rw [List.take_length], hv.symm⟩
  · rintro a b c ⟨rfl, rfl, rfl, hbad⟩
    have hBG : bndG (blkL (rawL (costsM rs) ts)) ts [] [] [] 0 = B := by
      rw [← hB]; unfold bndM; rw [if_neg (by omega)]
    have hp : ∀ k : Nat, k < ts.length → 1 ≤ (tskAt ts k).2.1 ∧ (tskAt ts k).2.1 ≤ 5000 := fun k hk => (hf.task hk).1.1
    generalize rawL (costsM rs) ts = R at *
    refine ⟨fun m i a b c => 0 ≤ i ∧ i ≤ ts.length ∧ m = (ts.length - i).toNat ∧ b = R.map (·.1) ∧ c = ts.map per ∧ ∃ acc : List Bd, acc.length = i.toNat ∧ a = acc ++ R.drop i.toNat ∧
      bndG ((blkL R).drop i.toNat) (ts.drop i.toNat) ((R.take i.toNat).map (·.1)) ((ts.take i.toNat).map per) acc i = B, ⟨_, by omega, by omega, rfl, rfl, rfl, [], rfl, rfl, hBG⟩, ?_⟩
    rintro m i a b c ⟨h0, h1, rfl, rfl, rfl, acc, hal, rfl, hv⟩
    have hlen : (acc ++ R.drop i.toNat).length = ts.length := by rw [List.length_append, List.length_drop]; omega
    refine ifP (fun hlt => ?_) (fun hge => ?_)
    · rw [hlen] at hlt
      have hi : i.toNat < R.length := by omega
      have hd := drop_getD (l := R) hi dBd
      have hb0 := hr.hb _ hi
      have hrng := accB_range (l := R.drop (i.toNat + 1)) (fun k hk => by
        rw [List.getD_eq_getElem?_getD, List.getElem?_drop, ← List.getD_eq_getElem?_getD]
        exact (hr.hl _ (by rw [List.length_drop] at hk; omega)).2) (b := 0) (by omega) (by omega)
      have hbl := drop_getD (l := blkL R) (i := i.toNat) (by rw [blkL_len]; exact hi) dBd
      rw [blkL_at hi, hb0] at hbl
      have htd := drop_getD (l := ts) (i := i.toNat) (by omega) ((0 : Int), ((0 : Int), ((0 : Int), ((0 : Int), ((0 : Int), ((0 : Int), ()))))))
      have t2 := take_map_snoc (f := (·.1)) hi dBd
      have t3 := take_map_snoc (f := per) (l := ts) (i := i.toNat) (by omega) ((0 : Int), ((0 : Int), ((0 : Int), ((0 : Int), ((0 : Int), ((0 : Int), ()))))))
      have hcp := cp_take (i := i.toNat + 1) hr hrl h5 hbad hp (by omega)
      generalize hy : R.getD i.toNat dBd = y at *
      rw [hd]
      refine ⟨fun i' a b c => i' = i ∧ b = R.map (·.1) ∧ c = ts.map per ∧ a = acc ++ setB y (accB (R.drop (i.toNat + 1)) 0) :: R.drop (i.toNat + 1), ?_, ?_⟩
      · refine ⟨fun m i' k a b c => i' = i ∧ i + 1 ≤ k ∧ k ≤ ts.length ∧ m = (ts.length - k).toNat ∧ b = R.map (·.1) ∧ c = ts.map per ∧ ∃ z : Int, a = acc ++ setB y z :: R.drop (i.toNat + 1) ∧ accB (R.drop k.toNat) z = accB (R.drop (i.toNat + 1)) 0,
          ⟨_, rfl, by rw [w64 (by omega)]; omega, by rw [w64 (by omega)]; omega, rfl, rfl, rfl, y.2.2.1, rfl, by rw [w64 (by omega), toNat_succ h0, hb0]⟩, ?_⟩
        rintro m i' k a b c ⟨rfl, k0, k1, rfl, rfl, rfl, z, rfl, hz⟩
        have hln : (acc ++ setB y z :: R.drop (i'.toNat + 1)).length = ts.length := by simp; omega
        refine ifP (fun hk => ?_) (fun hk => ?_)
        · rw [hln] at hk
          have hkd := drop_getD (l := R) (i := k.toNat) (by omega) dBd
          rw [hkd, accB_cons] at hz
          have ha : (acc ++ setB y z :: R.drop (i'.toNat + 1)).getD k.toNat dBd = R.getD k.toNat dBd := by
            rw [show k.toNat = i'.toNat + 1 + (k.toNat - (i'.toNat + 1)) by omega, mid_after hal, List.getD_eq_getElem?_getD, List.getElem?_drop, List.getD_eq_getElem?_getD]
          refine ⟨⟨h0, by rw [hln]; omega⟩, ⟨by omega, by rw [hln]; omega⟩, ⟨h0, by rw [hln]; omega⟩, ?_⟩
          rw [mid_at hal, ha, mid_set hal, w64 (x := k + 1) (by omega)]
          exact ⟨(ts.length - (k + 1)).toNat, by omega, rfl, by omega, by omega, rfl, rfl, rfl, _, rfl, by rw [toNat_succ (by omega)]; exact hz⟩
        · have : k.toNat = R.length := by omega
          rw [this, List.drop_length] at hz
          simp only [accB] at hz
          rw [← hz]
          exact ⟨rfl, rfl, rfl, rfl⟩
      · rintro i' a b c ⟨rfl, rfl, rfl, rfl⟩
        have hln : ∀ q : Bd, (acc ++ q :: R.drop (i'.toNat + 1)).length = ts.length := fun q => by simp; omega
        rw [w64 (x := i' + 1) (by omega)]
        refine ⟨⟨by omega, by omega, by simp; omega⟩, ⟨by omega, by omega, by simp; omega⟩, ⟨h0, by rw [hln]; exact hlt⟩, ?_⟩
        rw [mid_at hal, toNat_succ h0]
        have e1 : (((R.map (·.1)).take (i'.toNat + 1)).drop (Int.toNat 0)) = (R.take (i'.toNat + 1)).map (·.1) := by rw [← List.map_take]; rfl
        have e2 : (((ts.map per).take (i'.toNat + 1)).drop (Int.toNat 0)) = (ts.take (i'.toNat + 1)).map per := by rw [← List.map_take]; rfl
        rw [e1, e2]
        have hbu := c_spec_l09Busy _ _ (accB (R.drop (i'.toNat + 1)) 0) hcp hrng
        have t2s : (R.take (i'.toNat + 1)).map (·.1) = (R.take i'.toNat).map (·.1) ++ [(setB y (accB (R.drop (i'.toNat + 1)) 0)).1] := t2
        have t3s : (ts.take (i'.toNat + 1)).map per = (ts.take i'.toNat).map per ++ [(ts.getD i'.toNat ((0 : Int), ((0 : Int), ((0 : Int), ((0 : Int), ((0 : Int), ((0 : Int), ()))))))).2.1] := t3
        rw [hbl, htd, bndG_cons, ← t2s, ← t3s] at hv
        refine ⟨_, _, hbu, ?_⟩
        simp only [mid_set hal]
        simp only [setB] at hv ⊢
        refine ifB_cases (fun hb => ?_) (fun hb => ?_)
        · simp only [Bool.not_eq_true'] at hb
          simp only [hb, Bool.false_eq_true, ↓reduceIte] at hv
          rw [← hv]; exact ⟨rfl, rfl⟩
        · simp only [Bool.not_eq_false'] at hb
          simp only [hb, ↓reduceIte] at hv
          refine ⟨⟨h0, by rw [hln]; exact hlt⟩, (ts.length - (i' + 1)).toNat, by omega, by omega, by omega, by first | exact rfl | trivial, by first | exact rfl | trivial, by first | exact rfl | trivial, _, ?_, ?_, by rw [toNat_succ h0]; exact hv⟩
          · simp; omega
          · rw [toNat_succ h0, List.append_assoc]; rfl
    · rw [hlen] at hge
      have e : i.toNat = ts.length := by omega
      rw [e] at hv hal ⊢
      rw [← hrl, ← blkL_len, List.drop_length] at hv
      rw [← hrl, List.drop_length, List.append_nil]
      simp only [bndG] at hv
      rw [← hv]; exact ⟨rfl, rfl⟩
end Go.Ry

set_option linter.unusedVariables false
set_option linter.unusedSimpArgs false
namespace Go.Ry
open Go.Proofs

@[reducible] def bndI (i n : Int) : Ent := .tup [(false, [.row 0]), (false, [cI i]), (false, [cI n])]
def codeB (b : Bool) : Int := if b = true then 0 else 18
theorem c_impl_bounds (ks : List Int) (rs : List Rou) (ts : List Tsk) (sf : List Bool) (hf : PrgFit ks rs ts sf) :
    TT n_impl_bounds [prgE ks rs ts sf] [] (bndI (bndM (costsM rs) ts).2.1 (codeB (bndM (costsM rs) ts).2.2)) (bndO (bndM (costsM rs) ts).1) := by
  obtain ⟨c1, c2⟩ := costs_all hf.rous
  have h5 := hf.ts5
  have hr := raw_ok hf c1 c2
  have hrl := rawL_len (cs := costsM rs) (ts := ts)
  generalize hB : bndM (costsM rs) ts = B
  refine r_impl_bounds ks rs ts sf ⟨_, c_impl_costsOf rs hf.rous, fun a => a = rawL (costsM rs) ts, ?_, ?_⟩
  · refine ⟨fun m i a cs => 0 ≤ i ∧ i ≤ ts.length ∧ m = (ts.length - i).toNat ∧ cs = costsM rs ∧ a = (rawL (costsM rs) ts).take i.toNat, ⟨_, rfl, rfl, by omega, by omega, rfl, rfl, rfl⟩, ?_⟩
    rintro m i a cs ⟨h0, h1, rfl, rfl, rfl⟩
    refine ifP (fun hlt => ?_) (fun hge => ?_)
    · have hi : i.toNat < ts.length := by omega
      have ht := hf.task (k := i.toNat) hi
      have hat := rawL_at (cs := costsM rs) hi
      have t1 := take_succ_getD (l := rawL (costsM rs) ts) (i := i.toNat) (by omega) dBd
      rw [hat] at t1
      have hs := c1.at (i := (tskAt ts i.toNat).2.2.2.2.2.1.toNat) (by omega)
      have q1 : ((rawL (costsM rs) ts).take i.toNat).length = i.toNat := by rw [List.length_take]; omega
      refine ⟨⟨h0, hlt⟩, ⟨ht.2.1, by rw [c2]; exact ht.2.2⟩, _, _, _, _, _, c_impl_jobCost _ hs, _, c_impl_longest _, by simp [q1]; omega, ?_⟩
      rw [w64 (x := i + 1) (by omega)]
      exact ⟨_, by omega, rfl, rfl, by omega, by omega, rfl, rfl, by rw [toNat_succ h0, t1]; rfl⟩
    · have e : i.toNat = ts.length := by omega
      rw [e]
      exact ⟨rfl, by rw [← hrl, List.take_length]⟩
  rintro a rfl
  have hp : ∀ k : Nat, k < ts.length → 1 ≤ (tskAt ts k).2.1 ∧ (tskAt ts k).2.1 ≤ 5000 := fun k hk => (hf.task hk).1.1
  have hBM : bndM (costsM rs) ts = if 0 ≤ badC (rawL (costsM rs) ts) 0 then ([], badC (rawL (costsM rs) ts) 0, false) else bndG (blkL (rawL (costsM rs) ts)) ts [] [] [] 0 := rfl
  rw [hB] at hBM
  generalize rawL (costsM rs) ts = R at *
  refine ⟨fun a => a = blkL R, ?_, ?_⟩
  · refine ⟨fun m n i a => n = ts.length ∧ 0 ≤ i ∧ i ≤ ts.length ∧ m = (ts.length - i).toNat ∧ ∃ acc : List Bd, acc.length = i.toNat ∧ a = acc ++ R.drop i.toNat ∧ acc ++ blkL (R.drop i.toNat) = blkL R,
      ⟨_, rfl, by rw [hrl], by omega, by omega, rfl, [], rfl, rfl, rfl⟩, ?_⟩
    rintro m n i a ⟨rfl, h0, h1, rfl, acc, hal, rfl, hv⟩
    have hlen : (acc ++ R.drop i.toNat).length = ts.length := by rw [List.length_append, List.length_drop]; omega
    refine ifP (fun hlt => ?_) (fun hge => ?_)
    · have hi : i.toNat < R.length := by omega
      have hd := drop_getD (l := R) hi dBd
      generalize hy : R.getD i.toNat dBd = y at *
      rw [hd] at hv ⊢
      simp only [blkL] at hv
      have hln : ∀ q : Bd, (acc ++ q :: R.drop (i.toNat + 1)).length = ts.length := fun q => by simp; omega
      rw [w64 (x := i + 1) (by omega), hln]
      refine ⟨⟨by omega, by omega, by omega⟩, fun m i1 n1 i2 lo hi' n2 j a => i1 = i ∧ n1 = ts.length ∧ i2 = i ∧ lo = (i + 1).toNat ∧ hi' = ts.length ∧ n2 = ts.length - (i + 1) ∧ 0 ≤ j ∧ j ≤ ts.length - (i + 1) ∧ m = (ts.length - (i + 1) - j).toNat ∧
        ∃ z : Int, a = acc ++ setB y z :: R.drop (i.toNat + 1) ∧ accB (R.drop (i.toNat + 1 + j.toNat)) z = accB (R.drop (i.toNat + 1)) y.2.2.1, ⟨_, rfl, rfl, rfl, rfl, rfl, by omega, ?_, by omega, by omega, rfl, y.2.2.1, rfl, rfl⟩, ?_⟩
      · simp; omega
      rintro m i1 n1 i2 lo hi' n2 j a ⟨rfl, rfl, rfl, rfl, rfl, rfl, j0, j1, rfl, z, rfl, hz⟩
      refine ifP (fun hj => ?_) (fun hj => ?_)
      · have hkd := drop_getD (l := R) (i := i2.toNat + 1 + j.toNat) (by omega) dBd
        rw [hkd, accB_cons] at hz
        have ha : (acc ++ setB y z :: R.drop (i2.toNat + 1)).getD ((i2 + 1).toNat + j.toNat) dBd = R.getD (i2.toNat + 1 + j.toNat) dBd := by
          rw [show (i2 + 1).toNat + j.toNat = i2.toNat + 1 + j.toNat by omega, mid_after hal, List.getD_eq_getElem?_getD, List.getElem?_drop, List.getD_eq_getElem?_getD]
        refine ⟨⟨j0, by simp; omega⟩, ⟨h0, by rw [hln]; omega⟩, ⟨h0, by rw [hln]; omega⟩, ?_⟩
        rw [mid_at hal, ha, mid_set hal, w64 (x := j + 1) (by omega)]
        exact ⟨(ts.length - (i2 + 1) - (j + 1)).toNat, by omega, rfl, rfl, rfl, rfl, rfl, rfl, rfl, by omega, by omega, rfl, _, rfl, by rw [toNat_succ j0]; exact hz⟩
      · have : i2.toNat + 1 + j.toNat = R.length := by omega
        rw [this, List.drop_length] at hz
        simp only [accB] at hz
        rw [w64 (x := i2 + 1) (by omega)]
        refine ⟨(ts.length - (i2 + 1)).toNat, by omega, rfl, rfl, by omega, by omega, rfl, acc ++ [setB y z], ?_, ?_, ?_⟩
        · simp; omega
        · rw [toNat_succ h0, List.append_assoc]; rfl
        · rw [toNat_succ h0, ← hv, hz, List.append_assoc]; rfl
    · have e : i.toNat = R.length := by omega
      rw [e, List.drop_length] at hv
      rw [e, List.drop_length]
      simp only [blkL, List.append_nil] at hv ⊢
      exact ⟨by first | exact rfl | trivial, hv⟩
  rintro a rfl
  have hbl := blkL_len R
  refine ⟨fun a => a = blkL R ∧ badC R 0 = -1, ?_, ?_⟩
  · refine ⟨fun m n i a => n = ts.length ∧ 0 ≤ i ∧ i ≤ ts.length ∧ m = (ts.length - i).toNat ∧ a = blkL R ∧ badC ((blkL R).drop i.toNat) i = badC R 0, ⟨_, rfl, by rw [hbl, hrl], by omega, by omega, rfl, rfl, badC_blk R 0⟩, ?_⟩
    rintro m n i a ⟨rfl, h0, h1, rfl, rfl, hv⟩
    refine ifP (fun hlt => ?_) (fun hge => ?_)
    · rw [drop_getD (by omega) dBd, badC_cons] at hv
      refine ⟨⟨h0, by omega⟩, ifP (fun hbad => ?_) (fun hok => ?_)⟩
      · rw [if_pos hbad] at hv
        rw [← hv, if_pos h0] at hBM
        rw [hBM]; exact ⟨rfl, rfl⟩
      · rw [if_neg hok] at hv
        rw [w64 (x := i + 1) (by omega)]
        exact ⟨_, by omega, rfl, rfl, by omega, by omega, rfl, rfl, by rw [toNat_succ h0]; exact hv⟩
    · have e : i.toNat = (blkL R).length := by omega
      rw [e, List.drop_length] at hv
      exact ⟨rfl, rfl, hv.symm⟩
  rintro a ⟨rfl, hbad⟩
  rw [if_neg (by omega)] at hBM
  refine ⟨fun m i a cs ps => 0 ≤ i ∧ i ≤ ts.length ∧ m = (ts.length - i).toNat ∧ cs = (R.take i.toNat).map (·.1) ∧ ps = (ts.take i.toNat).map per ∧ ∃ acc : List Bd, acc.length = i.toNat ∧ a = acc ++ (blkL R).drop i.toNat ∧
    bndG ((blkL R).drop i.toNat) (ts.drop i.toNat) ((R.take i.toNat).map (·.1)) ((ts.take i.toNat).map per) acc i = B, ⟨_, rfl, by omega, by omega, rfl, rfl, rfl, [], rfl, rfl, hBM.symm⟩, ?_⟩
  rintro m i a cs ps ⟨h0, h1, rfl, rfl, rfl, acc, hal, rfl, hv⟩
  have hlen : (acc ++ (blkL R).drop i.toNat).length = ts.length := by rw [List.length_append, List.length_drop]; omega
  refine ifP (fun hlt => ?_) (fun hge => ?_)
  · have hi : i.toNat < R.length := by omega
    have hb0 := hr.hb _ hi
    have hrng := accB_range (l := R.drop (i.toNat + 1)) (fun k hk => by
      rw [List.getD_eq_getElem?_getD, List.getElem?_drop, ← List.getD_eq_getElem?_getD]
      exact (hr.hl _ (by rw [List.length_drop] at hk; omega)).2) (b := 0) (by omega) (by omega)
    have hbd := drop_getD (l := blkL R) (i := i.toNat) (by omega) dBd
    rw [blkL_at hi, hb0] at hbd
    have htd := drop_getD (l := ts) (i := i.toNat) (by omega) ((0 : Int), ((0 : Int), ((0 : Int), ((0 : Int), ((0 : Int), ((0 : Int), ()))))))
    have t2 := take_map_snoc (f := (·.1)) hi dBd
    have t3 := take_map_snoc (f := per) (l := ts) (i := i.toNat) (by omega) ((0 : Int), ((0 : Int), ((0 : Int), ((0 : Int), ((0 : Int), ((0 : Int), ()))))))
    have hcp := cp_take (i := i.toNat + 1) hr hrl h5 hbad hp (by omega)
    have q1 : ((R.take i.toNat).map (·.1)).length = i.toNat := by rw [List.length_map, List.length_take]; omega
    have q2 : ((ts.take i.toNat).map per).length = i.toNat := by rw [List.length_map, List.length_take]; omega
    have hln : ∀ q : Bd, (acc ++ q :: (blkL R).drop (i.toNat + 1)).length = ts.length := fun q => by simp; omega
    generalize hy : R.getD i.toNat dBd = y at *
    have t2s : (R.take (i.toNat + 1)).map (·.1) = (R.take i.toNat).map (·.1) ++ [(setB y (accB (R.drop (i.toNat + 1)) 0)).1] := t2
    have t3s : (ts.take (i.toNat + 1)).map per = (ts.take i.toNat).map per ++ [(ts.getD i.toNat ((0 : Int), ((0 : Int), ((0 : Int), ((0 : Int), ((0 : Int), ((0 : Int), ()))))))).2.1] := t3
    rw [hbd, htd, bndG_cons, ← t2s, ← t3s] at hv
    rw [hbd]
    refine ⟨⟨h0, hlt⟩, fun i1 i2 a cs ps => i1 = i ∧ i2 = i ∧ a = acc ++ setB y (accB (R.drop (i.toNat + 1)) 0) :: (blkL R).drop (i.toNat + 1) ∧ cs = (R.take (i.toNat + 1)).map (·.1) ∧ ps = (ts.take (i.toNat + 1)).map per, ⟨⟨h0, by rw [hln]; exact hlt⟩, ?_⟩, ?_⟩
    · rw [mid_at hal]
      have one : ((((R.take i.toNat).map (·.1)).length : Int) + (([(setB y (accB (R.drop (i.toNat + 1)) 0)).1] : List Int).length : Int)) * 8 ≤ 140737488355328 ∧ ((((ts.take i.toNat).map per).length : Int) + (([(ts.getD i.toNat ((0 : Int), ((0 : Int), ((0 : Int), ((0 : Int), ((0 : Int), ((0 : Int), ()))))))).2.1] : List Int).length : Int)) * 8 ≤ 140737488355328 := by
        rw [q1, q2]; simp; omega
      have oneN : (((R.take i.toNat).map (·.1)).length + ([(setB y (accB (R.drop (i.toNat + 1)) 0)).1] : List Int).length) * 8 ≤ 140737488355328 ∧ (((ts.take i.toNat).map per).length + ([(ts.getD i.toNat ((0 : Int), ((0 : Int), ((0 : Int), ((0 : Int), ((0 : Int), ((0 : Int), ()))))))).2.1] : List Int).length) * 8 ≤ 140737488355328 := by
        rw [q1, q2]; simp; omega
      exact ⟨⟨⟨oneN.1, oneN.2, rfl, rfl, rfl, rfl, t2s.symm, t3s.symm⟩, oneN.1, oneN.2, rfl, rfl, rfl, rfl, t2s.symm, t3s.symm⟩, oneN.1, oneN.2, rfl, rfl, rfl, rfl, t2s.symm, t3s.symm⟩
    · rintro i1 i2 a cs ps ⟨rfl, rfl, rfl, rfl, rfl⟩
      refine ⟨⟨h0, by rw [hln]; exact hlt⟩, ?_⟩
      rw [mid_at hal]
      have hbu := c_impl_busy _ _ (accB (R.drop (i2.toNat + 1)) 0) hcp hrng
      refine ⟨_, _, hbu, ?_⟩
      simp only [mid_set hal]
      simp only [setB] at hv ⊢
      refine ifB_cases (fun hb => ?_) (fun hb => ?_)
      · simp only [Bool.not_eq_true'] at hb
        simp only [hb, Bool.false_eq_true, ↓reduceIte] at hv
        rw [← hv]; exact ⟨rfl, rfl⟩
      · simp only [Bool.not_eq_false'] at hb
        simp only [hb, ↓reduceIte] at hv
        rw [w64 (x := i2 + 1) (by omega)]
        refine ⟨⟨h0, by rw [hln]; exact hlt⟩, (ts.length - (i2 + 1)).toNat, by omega, by first | exact rfl | trivial, by omega, by omega, rfl, by rw [toNat_succ h0], by rw [toNat_succ h0], _, ?_, ?_, by rw [toNat_succ h0]; exact hv⟩
        · simp; omega
        · rw [toNat_succ h0, List.append_assoc]; rfl
  · have e : i.toNat = ts.length := by omega
    rw [e] at hv hal ⊢
    rw [← hrl, ← hbl, List.drop_length] at hv
    rw [← hrl, ← hbl, List.drop_length, List.append_nil]
    simp only [bndG] at hv
    rw [← hv]; exact ⟨rfl, rfl⟩
end Go.Ry
