/- The bounds of tasks: the same by the program and by the reference. No condition. -/
import Derived.Test.YtlfapnlaalnbjaaGreatPBnd1
set_option linter.unusedVariables false
set_option linter.unusedSimpArgs false
namespace Go.Ry
open Go.Proofs

def rawB (cs : List Su) (t : Tsk) : Bd := ((jobM (suAt cs t.2.2.2.2.2.1)).1, (longM (jobM (suAt cs t.2.2.2.2.2.1)), (0, (0, ()))))
def rawL (cs : List Su) (ts : List Tsk) : List Bd := ts.map (rawB cs)
def setB (y : Bd) (b : Int) : Bd := (y.1, (y.2.1, (b, (y.2.2.2.1, ()))))
def setN (y : Bd) (n : Int) : Bd := (y.1, (y.2.1, (y.2.2.1, (n, ()))))
def accB : List Bd → Int → Int
  | [], b => b
  | y :: l, b => accB l (if y.2.1 > b then y.2.1 else b)
theorem accB_cons {y : Bd} {l : List Bd} {b : Int} : accB (y :: l) b = accB l (if y.2.1 > b then y.2.1 else b) := rfl
def blkL : List Bd → List Bd
  | [] => []
  | y :: l => setB y (accB l y.2.2.1) :: blkL l
theorem blkL_len : ∀ l : List Bd, (blkL l).length = l.length
  | [] => rfl
  | y :: l => by simp [blkL, blkL_len l]
theorem blkL_drop : ∀ (l : List Bd) (i : Nat), (blkL l).drop i = blkL (l.drop i)
  | [], i => by simp [blkL]
  | y :: l, 0 => rfl
  | y :: l, i + 1 => by simp only [blkL, List.drop_succ_cons]; exact blkL_drop l i
/-- The first task that costs too much. -/
def badC : List Bd → Int → Int
  | [], _ => -1
  | y :: l, i => if y.1 > 5000 then i else badC l (i + 1)
theorem badC_cons {y : Bd} {l : List Bd} {i : Int} : badC (y :: l) i = if y.1 > 5000 then i else badC l (i + 1) := rfl
theorem badC_blk : ∀ (l : List Bd) (i : Int), badC (blkL l) i = badC l i
  | [], _ => rfl
  | y :: l, i => by
    simp only [blkL, badC_cons, badC_blk l]
    rfl
theorem badC_ge : ∀ {l : List Bd} {i : Int}, 0 ≤ i → badC l i = -1 ∨ i ≤ badC l i
  | [], _, _ => .inl rfl
  | y :: l, i, h => by
    rw [badC_cons]
    split
    · exact .inr (by omega)
    · rcases badC_ge (l := l) (i := i + 1) (by omega) with h1 | h1
      · exact .inl h1
      · exact .inr (by omega)
theorem badC_none : ∀ {l : List Bd} {i : Int}, 0 ≤ i → badC l i = -1 → ∀ k : Nat, k < l.length → (l.getD k dBd).1 ≤ 5000
  | [], _, _, _, k, hk => by simp at hk
  | y :: l, i, h, hb, k, hk => by
    rw [badC_cons] at hb
    split at hb
    · omega
    · cases k with
      | zero => simp; omega
      | succ k => simpa using badC_none (l := l) (i := i + 1) (by omega) hb k (by simpa using hk)
/-- The bounds, task by task. -/
def bndG : List Bd → List Tsk → List Int → List Int → List Bd → Int → List Bd × Int × Bool
  | y :: l, t :: ts, cs, ps, acc, i => if (busyM (cs ++ [y.1]) (ps ++ [t.2.1]) y.2.2.1).2 = true then bndG l ts (cs ++ [y.1]) (ps ++ [t.2.1]) (acc ++ [setN y (busyM (cs ++ [y.1]) (ps ++ [t.2.1]) y.2.2.1).1]) (i + 1) else ([], i, false)
  | _, _, _, _, acc, _ => (acc, 0, true)
theorem bndG_cons {y : Bd} {l : List Bd} {t : Tsk} {ts : List Tsk} {cs ps : List Int} {acc : List Bd} {i : Int} : bndG (y :: l) (t :: ts) cs ps acc i =
    if (busyM (cs ++ [y.1]) (ps ++ [t.2.1]) y.2.2.1).2 = true then bndG l ts (cs ++ [y.1]) (ps ++ [t.2.1]) (acc ++ [setN y (busyM (cs ++ [y.1]) (ps ++ [t.2.1]) y.2.2.1).1]) (i + 1) else ([], i, false) := rfl
def bndM (cs : List Su) (ts : List Tsk) : List Bd × Int × Bool := if 0 ≤ badC (rawL cs ts) 0 then ([], badC (rawL cs ts) 0, false) else bndG (blkL (rawL cs ts)) ts [] [] [] 0
theorem rawL_len {cs : List Su} {ts : List Tsk} : (rawL cs ts).length = ts.length := by simp [rawL]
theorem rawL_at {cs : List Su} {ts : List Tsk} {i : Nat} (hi : i < ts.length) : (rawL cs ts).getD i dBd = rawB cs (tskAt ts i) := by
  simp [rawL, tskAt, List.getD_eq_getElem?_getD, List.getElem?_eq_getElem hi]

/-- In the middle of a list. -/
theorem mid_at {α : Type} {acc l : List α} {z d : α} {i : Nat} (h : acc.length = i) : (acc ++ z :: l).getD i d = z := by
  subst h
  rw [List.getD_eq_getElem?_getD, List.getElem?_append_right (Nat.le_refl _), Nat.sub_self]; rfl
theorem mid_set {α : Type} {acc l : List α} {z y : α} {i : Nat} (h : acc.length = i) : (acc ++ z :: l).set i y = acc ++ y :: l := by
  subst h
  rw [List.set_append_right _ _ (Nat.le_refl _), Nat.sub_self]; rfl
theorem mid_after {α : Type} {acc l : List α} {z d : α} {i j : Nat} (h : acc.length = i) : (acc ++ z :: l).getD (i + 1 + j) d = l.getD j d := by
  subst h
  rw [List.getD_eq_getElem?_getD, List.getElem?_append_right (by omega), show acc.length + 1 + j - acc.length = j + 1 by omega, List.getElem?_cons_succ, List.getD_eq_getElem?_getD]

structure RawOK (l : List Bd) : Prop where
  hc : ∀ k : Nat, k < l.length → 0 ≤ (l.getD k dBd).1 ∧ (l.getD k dBd).1 ≤ 2147483647
  hl : ∀ k : Nat, k < l.length → -1 ≤ (l.getD k dBd).2.1 ∧ (l.getD k dBd).2.1 ≤ 2147483647
  hb : ∀ k : Nat, k < l.length → (l.getD k dBd).2.2.1 = 0
theorem accB_range {l : List Bd} (h : ∀ k : Nat, k < l.length → (l.getD k dBd).2.1 ≤ 2147483647) : ∀ {b : Int}, 0 ≤ b → b ≤ 2147483647 → 0 ≤ accB l b ∧ accB l b ≤ 2147483647 := by
  induction l with
  | nil => intro b h0 h1; exact ⟨h0, h1⟩
  | cons y l ih =>
    intro b h0 h1
    rw [accB_cons]
    have hy := h 0 (by simp)
    simp at hy
    refine ih (fun k hk => by simpa using h (k + 1) (by simp; omega)) ?_ ?_
    · split <;> omega
    · split <;> omega
theorem blkL_at {l : List Bd} {i : Nat} (hi : i < l.length) : (blkL l).getD i dBd = setB (l.getD i dBd) (accB (l.drop (i + 1)) (l.getD i dBd).2.2.1) := by
  have h1 : (blkL l).drop i = (blkL l).getD i dBd :: (blkL l).drop (i + 1) := drop_getD (by rw [blkL_len]; exact hi) dBd
  rw [blkL_drop, drop_getD hi dBd, blkL] at h1
  exact (List.cons.inj h1).1.symm
theorem raw_ok {cs : List Su} {rs : List Rou} {ks : List Int} {ts : List Tsk} {sf : List Bool} (h : PrgFit ks rs ts sf) (hc : allOk cs) (hl : cs.length = rs.length) : RawOK (rawL cs ts) := by
  have key : ∀ k : Nat, k < ts.length → okS (jobM (suAt cs (tskAt ts k).2.2.2.2.2.1)) := fun k hk => by
    have ht := (h.task hk).2
    exact jobM_ok (hc.at (i := (tskAt ts k).2.2.2.2.2.1.toNat) (by omega))
  refine ⟨fun k hk => ?_, fun k hk => ?_, fun k hk => ?_⟩ <;> rw [rawL_len] at hk <;> rw [rawL_at hk]
  · exact (key k hk).t
  · exact longM_ok (key k hk)
  · rfl
end Go.Ry
