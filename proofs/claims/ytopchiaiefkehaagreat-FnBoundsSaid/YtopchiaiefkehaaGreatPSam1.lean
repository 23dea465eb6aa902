/- The bytes of a program tell it: prefix codes. No condition. -/
import Derived.Test.YtopchiaiefkehaaGreatPCod1
import Derived.Test.YtopchiaiefkehaaGreatPVer6
set_option linter.unusedVariables false
set_option linter.unusedSimpArgs false
namespace Go.Ry
open Go.Proofs

def PC {α : Type} (p : α → Prop) (f : α → List Int) : Prop := ∀ x y r s, p x → p y → f x ++ r = f y ++ s → x = y ∧ r = s
theorem PC.list {α : Type} {p : α → Prop} {f : α → List Int} (h : PC p f) : ∀ {l m : List α} {r s : List Int}, (∀ x ∈ l, p x) → (∀ x ∈ m, p x) → l.length = m.length → l.flatMap f ++ r = m.flatMap f ++ s → l = m ∧ r = s
  | [], [], r, s, _, _, _, e => ⟨rfl, by simpa using e⟩
  | [], _ :: _, _, _, _, _, e, _ => by simp at e
  | _ :: _, [], _, _, _, _, e, _ => by simp at e
  | x :: l, y :: m, r, s, hl, hm, e, e2 => by
    simp only [List.flatMap_cons, List.append_assoc] at e2
    obtain ⟨rfl, e3⟩ := h x y _ _ (hl x (by simp)) (hm y (by simp)) e2
    obtain ⟨rfl, e4⟩ := PC.list h (fun x hx => hl x (by simp [hx])) (fun x hx => hm x (by simp [hx])) (by simpa using e) e3
    exact ⟨rfl, e4⟩
theorem PC.all {α : Type} {p : α → Prop} {f : α → List Int} (h : PC p f) (hn : ∀ x, f x ≠ []) : ∀ {l m : List α}, (∀ x ∈ l, p x) → (∀ x ∈ m, p x) → l.flatMap f = m.flatMap f → l = m
  | [], [], _, _, _ => rfl
  | [], y :: m, _, _, e => by simp [hn y] at e
  | x :: l, [], _, _, e => by simp [hn x] at e
  | x :: l, y :: m, hl, hm, e2 => by
    simp only [List.flatMap_cons] at e2
    obtain ⟨rfl, e3⟩ := h x y _ _ (hl x (by simp)) (hm y (by simp)) e2
    rw [PC.all h hn (fun x hx => hl x (by simp [hx])) (fun x hx => hm x (by simp [hx])) e3]
/-- Numbers of so many bytes. -/
theorem leB_pc {z : Nat} (hz : isZ z) : PC (fun n : Int => -half z ≤ n ∧ n ≤ half z - 1) (fun n => leB n z) := by
  intro x y r s hx hy e
  obtain ⟨e1, e2⟩ := List.append_inj e (by rw [leB_length, leB_length])
  have e1 : leB x z = leB y z := e1
  exact ⟨by rw [← sgn_leB hz hx, e1, sgn_leB hz hy], e2⟩
theorem leB_pc1 {x y : Int} {r s : List Int} (hx : 0 ≤ x ∧ x ≤ 127) (hy : 0 ≤ y ∧ y ≤ 127) (e : leB x 1 ++ r = leB y 1 ++ s) : x = y ∧ r = s :=
  leB_pc (z := 1) (.inl rfl) x y r s (by simp [half]; omega) (by simp [half]; omega) e
theorem leB_pc2 {x y : Int} {r s : List Int} (hx : 0 ≤ x ∧ x ≤ 32767) (hy : 0 ≤ y ∧ y ≤ 32767) (e : leB x 2 ++ r = leB y 2 ++ s) : x = y ∧ r = s :=
  leB_pc (z := 2) (.inr (.inl rfl)) x y r s (by simp [half]; omega) (by simp [half]; omega) e
theorem leB_pc4 {x y : Int} {r s : List Int} (hx : -2147483648 ≤ x ∧ x ≤ 2147483647) (hy : -2147483648 ≤ y ∧ y ≤ 2147483647) (e : leB x 4 ++ r = leB y 4 ++ s) : x = y ∧ r = s :=
  leB_pc (z := 4) (.inr (.inr rfl)) x y r s (by simp [half]; omega) (by simp [half]; omega) e
theorem encI_pc : PC (fun x : Ins => instrOK x.1 x.2.1 = true) encI := by
  intro x y r s hx hy e
  obtain ⟨xo, xa, u⟩ := x
  obtain ⟨yo, ya, v⟩ := y
  have kx := (insOK_op hx).2.2
  have ky := (insOK_op hy).2.2
  simp only at kx ky
  unfold encI at e
  simp only [List.cons_append, List.cons.injEq] at e
  obtain ⟨rfl, e⟩ := e
  cases hr : (rangeOf xo).2.2 with
  | false =>
    rw [hr] at e kx ky
    simp at e
    rw [kx.2 rfl, ky.2 rfl]
    exact ⟨rfl, e⟩
  | true =>
    rw [hr] at e
    simp only [if_true] at e
    obtain ⟨e1, e2⟩ := leB_pc4 kx.1 ky.1 e
    rw [e1]; exact ⟨rfl, e2⟩
theorem encL_flat : ∀ (l : List Ins), encL l = l.flatMap encI
  | [] => rfl
  | x :: l => by rw [encL, List.flatMap_cons, encL_flat l]
theorem encL_inj {l m : List Ins} (hl : ∀ x ∈ l, instrOK x.1 x.2.1 = true) (hm : ∀ x ∈ m, instrOK x.1 x.2.1 = true) (e : encL l = encL m) : l = m := by
  rw [encL_flat, encL_flat] at e
  exact PC.all encI_pc (fun x e => by have := (encI_len (x := x)).1; rw [e] at this; simp at this) hl hm e
/-- A routine: how many bytes, and these. -/
def rouB (r : Rou) : List Int := leB (encL r.1).length 2 ++ encL r.1
theorem rouB_pc : PC (fun r : Rou => (∀ x ∈ r.1, instrOK x.1 x.2.1 = true) ∧ r.1.length ≤ 40) rouB := by
  intro x y r s hx hy e
  obtain ⟨lx, u⟩ := x
  obtain ⟨ly, v⟩ := y
  unfold rouB at e
  simp only [List.append_assoc] at e hx hy
  have h1 := encL_len (l := lx)
  have h2 := encL_len (l := ly)
  obtain ⟨e1, e2⟩ := leB_pc2 (x := (encL lx).length) (y := (encL ly).length) (by omega) (by omega) e
  obtain ⟨e3, e4⟩ := List.append_inj e2 (by omega)
  rw [encL_inj hx.1 hy.1 e3]
  exact ⟨rfl, e4⟩
def tskB (t : Tsk) : List Int := leB t.1 1 ++ leB t.2.1 4 ++ leB t.2.2.1 4 ++ leB t.2.2.2.1 1 ++ leB t.2.2.2.2.1 1 ++ leB t.2.2.2.2.2.1 1
theorem tskB_pc : PC (fun t : Tsk => (0 ≤ t.1 ∧ t.1 ≤ 127) ∧ (0 ≤ t.2.1 ∧ t.2.1 ≤ 2147483647) ∧ (0 ≤ t.2.2.1 ∧ t.2.2.1 ≤ 2147483647) ∧ (0 ≤ t.2.2.2.1 ∧ t.2.2.2.1 ≤ 127) ∧ (0 ≤ t.2.2.2.2.1 ∧ t.2.2.2.2.1 ≤ 127) ∧ (0 ≤ t.2.2.2.2.2.1 ∧ t.2.2.2.2.2.1 ≤ 127)) tskB := by
  rintro ⟨a, b, c, d, f, g, u⟩ ⟨a', b', c', d', f', g', v⟩ r s ⟨x1, x2, x3, x4, x5, x6⟩ ⟨y1, y2, y3, y4, y5, y6⟩ e
  unfold tskB at e
  simp only [List.append_assoc] at *
  obtain ⟨rfl, e1⟩ := leB_pc1 x1 y1 e
  obtain ⟨rfl, e2⟩ := leB_pc4 ⟨Int.le_trans (by decide) x2.1, x2.2⟩ ⟨Int.le_trans (by decide) y2.1, y2.2⟩ e1
  obtain ⟨rfl, e3⟩ := leB_pc4 ⟨Int.le_trans (by decide) x3.1, x3.2⟩ ⟨Int.le_trans (by decide) y3.1, y3.2⟩ e2
  obtain ⟨rfl, e4⟩ := leB_pc1 x4 y4 e3
  obtain ⟨rfl, e5⟩ := leB_pc1 x5 y5 e4
  obtain ⟨rfl, e6⟩ := leB_pc1 x6 y6 e5
  exact ⟨rfl, e6⟩
/-- Pins as a number, the first the lowest. -/
def bitsN : List Bool → Int
  | [] => 0
  | b :: l => (if b then 1 else 0) + 2 * bitsN l
theorem bitsN_rng : ∀ {l : List Bool}, 0 ≤ bitsN l ∧ bitsN l < 2 ^ l.length
  | [] => by simp [bitsN]
  | b :: l => by
    have := bitsN_rng (l := l)
    simp only [bitsN, List.length_cons, Int.pow_succ]
    cases b <;> simp <;> omega
theorem bitsN_inj : ∀ {l m : List Bool}, l.length = m.length → bitsN l = bitsN m → l = m
  | [], [], _, _ => rfl
  | [], _ :: _, e, _ => by simp at e
  | _ :: _, [], e, _ => by simp at e
  | b :: l, c :: m, e, e2 => by
    simp only [bitsN] at e2
    have h1 : b = c := by cases b <;> cases c <;> simp at e2 ⊢ <;> omega
    subst h1
    rw [bitsN_inj (l := l) (m := m) (by simpa using e) (by omega)]
def progB (ks : List Int) (rs : List Rou) (ts : List Tsk) (sf : List Bool) : List Int :=
  leB ks.length 1 ++ ks.flatMap (fun k => leB k 1) ++ leB rs.length 1 ++ rs.flatMap rouB ++ leB ts.length 1 ++ ts.flatMap tskB ++ [IntKind.wrap .u8 (bitsN sf)]
theorem kinds_in {ks : List Int} (h : kindsOK ks = true) : ks.length ≤ 8 ∧ ∀ k ∈ ks, 0 ≤ k ∧ k ≤ 127 := by
  simp only [kindsOK, Bool.and_eq_true, decide_eq_true_eq, List.all_eq_true] at h
  refine ⟨h.1, fun k hk => ?_⟩
  have := h.2 k hk
  unfold isKind at this
  have := within_iff.1 this
  omega
theorem rous_in {rs : List Rou} (h : rousOK rs = true) : rs.length ≤ 6 ∧ ∀ r ∈ rs, (∀ x ∈ r.1, instrOK x.1 x.2.1 = true) ∧ r.1.length ≤ 40 := by
  simp only [rousOK, Bool.and_eq_true, decide_eq_true_eq, List.all_eq_true] at h
  refine ⟨h.1, fun r hr => ?_⟩
  have := h.2 r hr
  simp only [rouOK, codeOK, Bool.and_eq_true, decide_eq_true_eq, List.all_eq_true] at this
  exact ⟨fun x hx => this.2 x hx, this.1⟩
theorem tsk_in {t : Tsk} (h : tskOK t = true) : (0 ≤ t.1 ∧ t.1 ≤ 127) ∧ (0 ≤ t.2.1 ∧ t.2.1 ≤ 2147483647) ∧ (0 ≤ t.2.2.1 ∧ t.2.2.1 ≤ 2147483647) ∧ (0 ≤ t.2.2.2.1 ∧ t.2.2.2.1 ≤ 127) ∧ (0 ≤ t.2.2.2.2.1 ∧ t.2.2.2.2.1 ≤ 127) ∧ (0 ≤ t.2.2.2.2.2.1 ∧ t.2.2.2.2.2.1 ≤ 127) := by
  obtain ⟨k, p, d, pin, q, r, u⟩ := t
  simp only [tskOK, taskOK, Bool.and_eq_true] at h
  obtain ⟨h1, h2, h3, h4, h5⟩ := h
  have h1 := within_iff.1 h1
  have h2 := within_iff.1 h2
  have h3 := within_iff.1 h3
  have h4 := within_iff.1 h4
  simp only
  split at h5
  · simp only [Bool.and_eq_true, decide_eq_true_eq] at h5
    refine ⟨?_, ?_, ?_, ?_, ?_, ?_⟩ <;> omega
  · split at h5
    · have h5 := within_iff.1 h5
      refine ⟨?_, ?_, ?_, ?_, ?_, ?_⟩ <;> omega
    · cases h5
theorem bits_byte {l m : List Bool} (hl : l.length = 8) (hm : m.length = 8) (e : IntKind.wrap .u8 (bitsN l) = IntKind.wrap .u8 (bitsN m)) : l = m := by
  have h1 := bitsN_rng (l := l)
  have h2 := bitsN_rng (l := m)
  rw [hl] at h1
  rw [hm] at h2
  rw [wu8_eq, wu8_eq] at e
  exact bitsN_inj (by omega) (by omega)
theorem progB_inj {ks ks' : List Int} {rs rs' : List Rou} {ts ts' : List Tsk} {sf sf' : List Bool} (h : PrgFit ks rs ts sf) (h' : PrgFit ks' rs' ts' sf') (e : progB ks rs ts sf = progB ks' rs' ts' sf') : ks = ks' ∧ rs = rs' ∧ ts = ts' ∧ sf = sf' := by
  have a1 := kinds_in h.hk
  have a2 := kinds_in h'.hk
  have b1 := rous_in h.hr
  have b2 := rous_in h'.hr
  have c1 := h.ts5
  have c2 := h'.ts5
  unfold progB at e
  simp only [List.append_assoc] at e
  obtain ⟨e1, q1⟩ := leB_pc1 (x := ks.length) (y := ks'.length) (by omega) (by omega) e
  obtain ⟨rfl, q2⟩ := PC.list (p := fun n : Int => -half (1 : Nat) ≤ n ∧ n ≤ half (1 : Nat) - 1) (leB_pc (z := 1) (.inl rfl)) (fun k hk => by have := a1.2 k hk; simp [half]; omega) (fun k hk => by have := a2.2 k hk; simp [half]; omega) (by omega) q1
  obtain ⟨e2, q3⟩ := leB_pc1 (x := rs.length) (y := rs'.length) (by omega) (by omega) q2
  obtain ⟨rfl, q4⟩ := PC.list rouB_pc b1.2 b2.2 (by omega) q3
  obtain ⟨e3, q5⟩ := leB_pc1 (x := ts.length) (y := ts'.length) (by omega) (by omega) q4
  obtain ⟨rfl, q6⟩ := PC.list tskB_pc (fun t ht => tsk_in (h.hts t ht).1) (fun t ht => tsk_in (h'.hts t ht).1) (by omega) q5
  exact ⟨rfl, rfl, rfl, bits_byte h.hs h'.hs (by simpa using q6)⟩
theorem flat_len {α : Type} {f : α → List Int} {k : Nat} (hf : ∀ x, (f x).length ≤ k) : ∀ (l : List α), (l.flatMap f).length ≤ k * l.length
  | [] => by simp
  | x :: l => by
    have := flat_len hf l
    have := hf x
    rw [List.flatMap_cons, List.length_append, List.length_cons, Nat.mul_succ]; omega
theorem flat_len' {α : Type} {p : α → Prop} {f : α → List Int} {k : Nat} (hf : ∀ x, p x → (f x).length ≤ k) : ∀ (l : List α), (∀ x ∈ l, p x) → (l.flatMap f).length ≤ k * l.length
  | [], _ => by simp
  | x :: l, h => by
    have := flat_len' hf l (fun x hx => h x (by simp [hx]))
    have := hf x (h x (by simp))
    rw [List.flatMap_cons, List.length_append, List.length_cons, Nat.mul_succ]; omega
theorem progB_len {ks : List Int} {rs : List Rou} {ts : List Tsk} {sf : List Bool} (h : PrgFit ks rs ts sf) : (progB ks rs ts sf).length ≤ 2000 := by
  have a1 := (kinds_in h.hk).1
  have b1 := rous_in h.hr
  have c1 := h.ts5
  have l1 := flat_len (f := fun k : Int => leB k 1) (k := 1) (fun x => by rw [leB_length]; exact Nat.le_refl _) ks
  have l2 := flat_len' (p := fun r : Rou => (∀ x ∈ r.1, instrOK x.1 x.2.1 = true) ∧ r.1.length ≤ 40) (f := rouB) (k := 202) (fun x hx => by have := encL_len (l := x.1); have := hx.2; unfold rouB; rw [List.length_append, leB_length]; omega) rs b1.2
  have l3 := flat_len (f := tskB) (k := 12) (fun x => by unfold tskB; simp [leB_length]) ts
  unfold progB
  simp only [List.length_append, leB_length, List.length_cons, List.length_nil]
  omega
/-- In a frame. -/
def frmB (t : List Int) : List Int := [80, 76, 67, 49] ++ leB t.length 4 ++ t ++ leB (sumL 1 ([80, 76, 67, 49] ++ leB t.length 4 ++ t)) 2
theorem frmB_inj {t u : List Int} (ht : t.length ≤ 65536) (hu : u.length ≤ 65536) (e : frmB t = frmB u) : t = u := by
  unfold frmB at e
  simp only [List.append_assoc] at e
  have e := List.append_cancel_left e
  obtain ⟨e1, e2⟩ := leB_pc4 (x := t.length) (y := u.length) (by omega) (by omega) e
  exact (List.append_inj e2 (by omega)).1
end Go.Ry
