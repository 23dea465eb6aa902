/- The evaluator is right: calls (1). No condition. -/
import Derived.Test.YtlphiljackccnaaRy16
set_option linter.unusedVariables false
set_option linter.unusedSimpArgs false
namespace Go.Ry

/-- The memory of some objects. -/
def feet (os : List Ob) (L : List Loc) (b q : Nat) : Prop := ∃ (i : Nat) (o : Ob) (l : Loc), os[i]? = some o ∧ L[i]? = some l ∧ foot o l b q

/-- A function is called and hands back a value: its own body, or one that the model knows. -/
def Does (P : Program) (g : Nat) (vs : Array Value) (w : World) (R : Value → World → Prop) : Prop :=
  (∃ v w', (callFunc g vs).run P w = .ok (.value v) w' ∧ R v w') ∨
  ((callFunc g vs).run P w = .ok (.enter g vs) w ∧ Calls P g vs w fun e w' => match e with
    | .returned v => R v w'
    | _ => False)

/-- What is told of a call: from arguments and objects to a result and objects. -/
def Triple (P : Program) : Calls_ := fun g as os r os' =>
  ∀ (w : World) (Z : Nat → Prop) (L : List Loc) (vs : Array Value), Sims w Z L os → EsSim w Z L as vs.toList →
    Does P g vs w fun v w' => ∃ Z' L', Sims w' Z' L' os' ∧ ESim w' Z' L' r v ∧ Grows L L' ∧ Keeps w (feet os L) w' ∧ (∀ b, Z b → Z' b) ∧
      (∀ b, Z' b → Z b ∨ w.heap.size ≤ b ∨ ∀ q, feet os L b q) ∧
      (∀ (i : Nat) (o : Ob) (l : Loc), os'[i]? = some o → L'[i]? = some l → ∀ b q, foot o l b q → w.heap.size ≤ b ∨ feet os L b q)

section
variable {w w' : World} {Z Z' : Nat → Prop} {L L' : List Loc}

/-- Objects get other numbers. -/
theorem areBoxes_ren {f : Nat → Option Nat} (hf : ∀ i j l, f i = some j → L[i]? = some l → L'[j]? = some l) : ∀ {bs cs : List Nat} {vs : List Value}, mapAll f bs = some cs → areBoxes L bs vs → areBoxes L' cs vs
  | [], cs, vs, h, hb => by
    simp only [mapAll, Option.some.injEq] at h
    subst h
    cases vs with
    | nil => trivial
    | cons _ _ => exact hb.elim
  | b :: bs, cs, vs, h, hb => by
    simp only [mapAll] at h
    split at h
    · rename_i m l h1 h2
      simp only [Option.some.injEq] at h
      subst h
      cases vs with
      | nil => exact hb.elim
      | cons v vs =>
        obtain ⟨⟨g, q, a1, a2⟩, a3⟩ := hb
        exact ⟨⟨g, q, hf _ _ _ h1 a1, a2⟩, areBoxes_ren hf h2 a3⟩
    · simp at h

theorem renC_sim {f : Nat → Option Nat} (hf : ∀ i j l, f i = some j → L[i]? = some l → L'[j]? = some l) (c : Cell) (v : Value) (h : CSim w Z L c v) : CSim w Z L' (renC f c) v := by
  have one := h.oneCell
  cases c with
  | row i =>
    simp only [renC]
    split
    · rename_i j hj
      obtain ⟨h1, sz, n, h2⟩ := h
      exact ⟨h1, sz, n, hf _ _ _ hj h2⟩
    · exact one
  | win i lo hi =>
    simp only [renC]
    split
    · rename_i j hj
      obtain ⟨u, sz, n, h1, h2⟩ := h
      exact ⟨u, sz, n, hf _ _ _ hj h1, h2⟩
    · exact one
  | ptrB i o =>
    simp only [renC]
    split
    · rename_i j hj
      obtain ⟨g, q, h1, h2⟩ := h
      exact ⟨g, q, hf _ _ _ hj h1, h2⟩
    · exact one
  | ptrE i k o =>
    simp only [renC]
    split
    · rename_i j hj
      obtain ⟨g, n, c, sz, m, h1, h2⟩ := h
      exact ⟨g, n, c, sz, m, hf _ _ _ hj h1, h2⟩
    · exact one
  | fn g bs =>
    simp only [renC]
    split
    · rename_i cs hcs
      obtain ⟨caps, h1, h2⟩ := h
      exact ⟨caps, h1, areBoxes_ren hf hcs h2⟩
    · exact one
  | _ => exact h

theorem OSim.map' {f : Cell → Cell} (hf : ∀ c v, CSim w Z L c v → CSim w Z' L' (f c) v) (hz : ∀ b, Z b → Z' b) {o : Ob} {l : Loc} (h : OSim w Z L o l) : OSim w Z' L' (mapO f o) l := by
  cases o with
  | dead => trivial
  | box cs =>
    obtain ⟨g, q, vs, rfl, h1, h2⟩ := h
    exact ⟨g, q, vs, rfl, CsSim.map hf h1, h2⟩
  | row e t xs =>
    obtain ⟨v, es, rfl, h1, h2, h3⟩ := h
    exact ⟨v, es, rfl, h1, h2, RowRd.mono (fun _ _ => rfl) hz h3⟩
  | hole e t xs k =>
    obtain ⟨g, c, cur, rfl, h1, h2, h3, h4, h5, h6, h7⟩ := h
    exact ⟨g, c, cur, rfl, h1, h2, h3, h4, h5, h6, fun i x hi hx => by
      obtain ⟨es, a1, a2, a3⟩ := h7 i x hi hx
      exact ⟨es, a1, a2, Rd.mono (fun _ _ => rfl) hz a3⟩⟩

theorem EsSim.map {f : Cell → Cell} (hf : ∀ c v, CSim w Z L c v → CSim w Z' L' (f c) v) : ∀ {es : List Ent} {vs : List Value}, EsSim w Z L es vs → EsSim w Z' L' (es.map (mapE f)) vs
  | [], [], _ => trivial
  | [], _ :: _, h => h.elim
  | _ :: _, [], h => h.elim
  | _ :: _, _ :: _, ⟨h1, h2⟩ => ⟨ESim.map hf h1, EsSim.map hf h2⟩

/-! ### plain data that leads nowhere -/
theorem Rd.flat : ∀ {t : Ty} {x : t.den} {es : List Value}, t.flat = true → Rd w Z t x es → Rd w Z' t x es
  | .unit, _, _, _, h | .int _, _, _, _, h | .bool, _, _, _, h | .str, _, _, _, h => h
  | .slice _, _, _, hf, _ => by simp [Ty.flat] at hf
  | .pair a b, x, _, hf, h => by
    simp only [Ty.flat, Bool.and_eq_true] at hf
    obtain ⟨c1, c2, e, h1, h2⟩ := h
    exact ⟨c1, c2, e, Rd.flat hf.1 h1, Rd.flat hf.2 h2⟩
theorem CSim.flat {c : Cell} {v : Value} (hf : c.flat = true) (h : CSim w Z L c v) : CSim w Z' L c v := by
  cases c <;> first
    | (simp [Cell.flat] at hf; done)
    | exact h
theorem CsSim.flat : ∀ {cs : List Cell} {vs : List Value}, cs.all Cell.flat = true → CsSim w Z L cs vs → CsSim w Z' L cs vs
  | [], [], _, _ => trivial
  | [], _ :: _, _, h => h.elim
  | _ :: _, [], _, h => h.elim
  | _ :: _, _ :: _, hf, ⟨h1, h2⟩ => by
    simp only [List.all_cons, Bool.and_eq_true] at hf
    exact ⟨CSim.flat hf.1 h1, CsSim.flat hf.2 h2⟩
def Ent.flat : Ent → Bool
  | .undef => true
  | .one c => c.flat
  | .agg cs => cs.all Cell.flat
  | .tup es => es.all fun x => x.2.all Cell.flat
theorem PsSim.flat : ∀ {ps : List (Bool × List Cell)} {vs : List Value}, (ps.all fun x => x.2.all Cell.flat) = true → PsSim w Z L ps vs → PsSim w Z' L ps vs
  | [], [], _, _ => trivial
  | [], _ :: _, _, h => h.elim
  | _ :: _, [], _, h => h.elim
  | (a, cs) :: _, _ :: _, hf, ⟨h1, h2⟩ => by
    simp only [List.all_cons, Bool.and_eq_true] at hf
    refine ⟨?_, PsSim.flat hf.2 h2⟩
    cases a
    · exact CsSim.flat hf.1 h1
    · obtain ⟨vs, e, h⟩ := h1
      exact ⟨vs, e, CsSim.flat hf.1 h⟩
theorem ESim.flat {e : Ent} {v : Value} (hf : e.flat = true) (h : ESim w Z L e v) : ESim w Z' L e v := by
  cases e with
  | undef => trivial
  | one c => exact CSim.flat hf h
  | agg cs => obtain ⟨vs, e, h⟩ := h; exact ⟨vs, e, CsSim.flat hf h⟩
  | tup es => obtain ⟨vs, e, h⟩ := h; exact ⟨vs, e, PsSim.flat hf h⟩
theorem OSim.flat {o : Ob} {l : Loc} (hf : o.flat = true) (h : OSim w Z L o l) : OSim w Z' L o l := by
  cases o with
  | dead => trivial
  | box cs =>
    obtain ⟨g, q, vs, rfl, h1, h2⟩ := h
    exact ⟨g, q, vs, rfl, CsSim.flat hf h1, h2⟩
  | row e t xs =>
    obtain ⟨v, es, rfl, h1, h2, h3⟩ := h
    exact ⟨v, es, rfl, h1, h2, fun i x hx => Rd.flat hf (h3 i x hx)⟩
  | hole e t xs k =>
    obtain ⟨g, c, cur, rfl, h1, h2, h3, h4, h5, h6, h7⟩ := h
    exact ⟨g, c, cur, rfl, h1, h2, h3, h4, h5, h6, fun i x hi hx => by
      obtain ⟨es, a1, a2, a3⟩ := h7 i x hi hx
      exact ⟨es, a1, a2, Rd.flat hf a3⟩⟩

/-! ### there is such a thing -/
theorem exC_some : ∀ {l : List Sh} {K : List Cell → Prop}, exC l K → ∃ cs, K cs ∧ (l.all Sh.flat = true → cs.all Cell.flat = true)
  | [], K, h => ⟨[], h, fun _ => rfl⟩
  | s :: l, K, h => by
    cases s with
    | int k => obtain ⟨n, h⟩ := h; obtain ⟨cs, h1, h2⟩ := exC_some h; exact ⟨_, h1, fun hf => by simp_all [Cell.flat]⟩
    | bool => obtain ⟨n, h⟩ := h; obtain ⟨cs, h1, h2⟩ := exC_some h; exact ⟨_, h1, fun hf => by simp_all [Cell.flat]⟩
    | str => obtain ⟨n, h⟩ := h; obtain ⟨cs, h1, h2⟩ := exC_some h; exact ⟨_, h1, fun hf => by simp_all [Cell.flat]⟩
    | sl t => obtain ⟨n, h⟩ := h; obtain ⟨cs, h1, h2⟩ := exC_some h; exact ⟨_, h1, fun hf => by simp [Sh.flat] at hf⟩
    | ifc => obtain ⟨n, h⟩ := h; obtain ⟨cs, h1, h2⟩ := exC_some h; exact ⟨_, h1, fun hf => by simp_all [Cell.flat]⟩
    | win i => obtain ⟨lo, hi, h⟩ := h; obtain ⟨cs, h1, h2⟩ := exC_some h; exact ⟨_, h1, fun hf => by simp_all [Cell.flat]⟩
    | fix c => obtain ⟨cs, h1, h2⟩ := exC_some (l := l) h; exact ⟨_, h1, fun hf => by simp_all [Sh.flat]⟩
theorem exT_some : ∀ {l : List (Bool × List Sh)} {K : List (Bool × List Cell) → Prop}, exT l K → ∃ es, K es ∧ ((l.all fun x => x.2.all Sh.flat) = true → (es.all fun x => x.2.all Cell.flat) = true)
  | [], K, h => ⟨[], h, fun _ => rfl⟩
  | (a, s) :: l, K, h => by
    obtain ⟨cs, h1, h2⟩ := exC_some (l := s) h
    obtain ⟨es, h3, h4⟩ := exT_some h1
    exact ⟨_, h3, fun hf => by
      simp only [List.all_cons, Bool.and_eq_true] at hf ⊢
      exact ⟨h2 hf.1, h4 hf.2⟩⟩
theorem exE_some {r : RS} {K : Ent → Prop} (h : exE r K) : ∃ e, K e ∧ (r.flat = true → e.flat = true) := by
  cases r with
  | one s =>
    simp only [exE] at h
    obtain ⟨cs, h1, h2⟩ := exC_some (l := [s]) h
    match cs, h1, h2 with
    | [c], h1, h2 => exact ⟨_, h1, fun hf => by simpa [Ent.flat] using h2 (by simpa [RS.flat] using hf)⟩
    | [], h1, _ => exact h1.elim
    | _ :: _ :: _, h1, _ => exact h1.elim
  | agg l =>
    obtain ⟨cs, h1, h2⟩ := exC_some (l := l) h
    exact ⟨_, h1, h2⟩
  | tup l =>
    obtain ⟨es, h1, h2⟩ := exT_some (l := l) h
    exact ⟨_, h1, h2⟩
theorem exO_some : ∀ {l : List OSh} {K : List Ob → Prop}, exO l K → ∃ os, K os ∧ (l.all OSh.flat = true → os.all Ob.flat = true)
  | [], K, h => ⟨[], h, fun _ => rfl⟩
  | s :: l, K, h => by
    cases s with
    | dead =>
      obtain ⟨os, h1, h2⟩ := exO_some (l := l) h
      exact ⟨_, h1, fun hf => by simp_all [Ob.flat]⟩
    | box ss =>
      obtain ⟨cs, h1, h2⟩ := exC_some (l := ss) h
      obtain ⟨os, h3, h4⟩ := exO_some h1
      exact ⟨_, h3, fun hf => by
        simp only [List.all_cons, Bool.and_eq_true] at hf ⊢
        exact ⟨h2 hf.1, h4 hf.2⟩⟩
    | row e t =>
      obtain ⟨xs, h⟩ := h
      obtain ⟨os, h1, h2⟩ := exO_some (l := l) h
      exact ⟨_, h1, fun hf => by
        simp only [List.all_cons, Bool.and_eq_true] at hf ⊢
        exact ⟨hf.1, h2 hf.2⟩⟩
end
end Go.Ry
