/- The evaluator, texts 17 to 20: The evaluator is right: calls (1). The evaluator is right: calls (2): what is lent, and what comes back. The evaluator is right: calls (3): what comes back. The evaluator is right: calls (4). No condition. -/
import Derived.Test.YtopchiaiefkehaaGreatRy16
set_option linter.unusedVariables false
set_option linter.unusedSimpArgs false
namespace Go.Ry

def feet (os : List Ob) (L : List Loc) (b q : Nat) : Prop := ∃ (i : Nat) (o : Ob) (l : Loc), os[i]? = some o ∧ L[i]? = some l ∧ foot o l b q

def Does (P : Program) (g : Nat) (vs : Array Value) (w : World) (R : Value → World → Prop) : Prop :=
  (∃ v w', (callFunc g vs).run P w = .ok (.value v) w' ∧ R v w') ∨
  ((callFunc g vs).run P w = .ok (.enter g vs) w ∧ Calls P g vs w fun e w' => match e with
    | .returned v => R v w'
    | _ => False)

def Triple (P : Program) : Calls_ := fun g as os r os' =>
  ∀ (w : World) (Z : Nat → Prop) (L : List Loc) (vs : Array Value), Sims w Z L os → EsSim w Z L as vs.toList →
    Does P g vs w fun v w' => ∃ Z' L', Sims w' Z' L' os' ∧ ESim w' Z' L' r v ∧ Grows L L' ∧ Keeps w (feet os L) w' ∧ (∀ b, Z b → Z' b) ∧
      (∀ b, Z' b → Z b ∨ w.heap.size ≤ b ∨ ∀ q, feet os L b q) ∧
      (∀ (i : Nat) (o : Ob) (l : Loc), os'[i]? = some o → L'[i]? = some l → ∀ b q, foot o l b q → w.heap.size ≤ b ∨ feet os L b q)

section
variable {w w' : World} {Z Z' : Nat → Prop} {L L' : List Loc}

theorem areBoxes_ren {f : Nat → Option Nat} (hf : ∀ i j l, f i = some j → L[i]? = some l → L'[j]? = some l) : ∀ {bs cs : List Nat} {vs : List Value}, mapAll f bs = some cs → areBoxes L bs vs → areBoxes L' cs vs
  | [], cs, vs, h, hb => by
    simp only [mapAll, Option.some.injEq] at h
    subst h
    cases vs with
    | nil => trivial
    | cons _ _ => exact hb.elim
  | b :: bs, cs, vs, h, hb => by
    simp only [mapAll] at h
    split at h
    · rename_i m l h1 h2
      simp only [Option.some.injEq] at h
      subst h
      cases vs with
      | nil => exact hb.elim
      | cons v vs =>
        obtain ⟨⟨g, q, s, a1, a2⟩, a3⟩ := hb
        exact ⟨⟨g, q, s, hf _ _ _ h1 a1, a2⟩, areBoxes_ren hf h2 a3⟩
    · simp at h

theorem renC_sim {f : Nat → Option Nat} (hf : ∀ i j l, f i = some j → L[i]? = some l → L'[j]? = some l) (c : Cell) (v : Value) (h : CSim w Z L c v) : CSim w Z L' (renC f c) v := by
  have one := h.oneCell
  cases c with
  | row i =>
    simp only [renC]
    split
    · rename_i j hj
      obtain ⟨h1, sz, n, h2⟩ := h
      exact ⟨h1, sz, n, hf _ _ _ hj h2⟩
    · exact one
  | win i lo hi =>
    simp only [renC]
    split
    · rename_i j hj
      obtain ⟨u, sz, n, h1, h2⟩ := h
      exact ⟨u, sz, n, hf _ _ _ hj h1, h2⟩
    · exact one
  | ptrB i o =>
    simp only [renC]
    split
    · rename_i j hj
      obtain ⟨g, q, s, h1, h2⟩ := h
      exact ⟨g, q, s, hf _ _ _ hj h1, h2⟩
    · exact one
  | selfp i t n =>
    simp only [renC]
    split
    · rename_i j hj
      obtain ⟨g, h1, h2⟩ := h
      exact ⟨g, hf _ _ _ hj h1, h2⟩
    · exact one
  | dat i =>
    simp only [renC]
    split
    · rename_i j hj
      obtain ⟨u, sz, n, h1, h2⟩ := h
      exact ⟨u, sz, n, hf _ _ _ hj h1, h2⟩
    · exact one
  | ptrE i k o =>
    simp only [renC]
    split
    · rename_i j hj
      obtain ⟨g, n, c, sz, m, h1, h2⟩ := h
      exact ⟨g, n, c, sz, m, hf _ _ _ hj h1, h2⟩
    · exact one
  | sub i k =>
    simp only [renC]
    split
    · rename_i j hj
      obtain ⟨h0, u, sz, n, h1, h2⟩ := h
      exact ⟨h0, u, sz, n, hf _ _ _ hj h1, h2⟩
    · exact one
  | mapP i =>
    simp only [renC]
    split
    · rename_i j hj
      obtain ⟨g, h1, h2⟩ := h
      exact ⟨g, hf _ _ _ hj h1, h2⟩
    · exact one
  | fn g bs =>
    simp only [renC]
    split
    · rename_i cs hcs
      obtain ⟨caps, h1, h2⟩ := h
      exact ⟨caps, h1, areBoxes_ren hf hcs h2⟩
    · exact one
  | _ => exact h

theorem OSim.map' {f : Cell → Cell} (hf : ∀ c v, CSim w Z L c v → CSim w Z' L' (f c) v) (hz : ∀ b, Z b → Z' b) {o : Ob} {l : Loc} (h : OSim w Z L o l) : OSim w Z' L' (mapO f o) l := by
  cases o with
  | dead => trivial
  | box cs =>
    obtain ⟨g, q, s, vs, rfl, h1, h2⟩ := h
    exact ⟨g, q, s, vs, rfl, CsSim.map hf h1, h2⟩
  | row e t xs =>
    obtain ⟨v, es, rfl, h1, h2, h3⟩ := h
    exact ⟨v, es, rfl, h1, h2, RowRd.mono (fun _ _ => rfl) hz h3⟩
  | nest e t q xs hl => exact h
  | imap k v es => exact h

theorem EsSim.map {f : Cell → Cell} (hf : ∀ c v, CSim w Z L c v → CSim w Z' L' (f c) v) : ∀ {es : List Ent} {vs : List Value}, EsSim w Z L es vs → EsSim w Z' L' (es.map (mapE f)) vs
  | [], [], _ => trivial
  | [], _ :: _, h => h.elim
  | _ :: _, [], h => h.elim
  | _ :: _, _ :: _, ⟨h1, h2⟩ => ⟨ESim.map hf h1, EsSim.map hf h2⟩

/-! ### plain data that leads nowhere -/
theorem Rd.flat : ∀ {t : Ty} {x : t.den} {es : List Value}, t.flat = true → Rd w Z t x es → Rd w Z' t x es
  | .unit, _, _, _, h | .int _, _, _, _, h | .bool, _, _, _, h | .str, _, _, _, h => h
  | .slice _, _, _, hf, _ => by simp [Ty.flat] at hf
  | .pair a b, x, _, hf, h => by
    simp only [Ty.flat, Bool.and_eq_true] at hf
    obtain ⟨c1, c2, e, h1, h2⟩ := h
    exact ⟨c1, c2, e, Rd.flat hf.1 h1, Rd.flat hf.2 h2⟩
theorem CSim.flat {c : Cell} {v : Value} (hf : c.flat = true) (h : CSim w Z L c v) : CSim w Z' L c v := by
  cases c <;> first
    | (simp [Cell.flat] at hf; done)
    | exact h
theorem CsSim.flat : ∀ {cs : List Cell} {vs : List Value}, cs.all Cell.flat = true → CsSim w Z L cs vs → CsSim w Z' L cs vs
  | [], [], _, _ => trivial
  | [], _ :: _, _, h => h.elim
  | _ :: _, [], _, h => h.elim
  | _ :: _, _ :: _, hf, ⟨h1, h2⟩ => by
    simp only [List.all_cons, Bool.and_eq_true] at hf
    exact ⟨CSim.flat hf.1 h1, CsSim.flat hf.2 h2⟩
def Ent.flat : Ent → Bool
  | .undef => true
  | .one c => c.flat
  | .agg cs => cs.all Cell.flat
  | .tup es => es.all fun x => x.2.all Cell.flat
theorem PsSim.flat : ∀ {ps : List (Bool × List Cell)} {vs : List Value}, (ps.all fun x => x.2.all Cell.flat) = true → PsSim w Z L ps vs → PsSim w Z' L ps vs
  | [], [], _, _ => trivial
  | [], _ :: _, _, h => h.elim
  | _ :: _, [], _, h => h.elim
  | (a, cs) :: _, _ :: _, hf, ⟨h1, h2⟩ => by
    simp only [List.all_cons, Bool.and_eq_true] at hf
    refine ⟨?_, PsSim.flat hf.2 h2⟩
    cases a
    · exact CsSim.flat hf.1 h1
    · obtain ⟨vs, e, h⟩ := h1
      exact ⟨vs, e, CsSim.flat hf.1 h⟩
theorem ESim.flat {e : Ent} {v : Value} (hf : e.flat = true) (h : ESim w Z L e v) : ESim w Z' L e v := by
  cases e with
  | undef => trivial
  | one c => exact CSim.flat hf h
  | agg cs => obtain ⟨vs, e, h⟩ := h; exact ⟨vs, e, CsSim.flat hf h⟩
  | tup es => obtain ⟨vs, e, h⟩ := h; exact ⟨vs, e, PsSim.flat hf h⟩
theorem OSim.flat {o : Ob} {l : Loc} (hf : o.flat = true) (h : OSim w Z L o l) : OSim w Z' L o l := by
  cases o with
  | dead => trivial
  | box cs =>
    obtain ⟨g, q, s, vs, rfl, h1, h2⟩ := h
    exact ⟨g, q, s, vs, rfl, CsSim.flat hf h1, h2⟩
  | row e t xs =>
    obtain ⟨v, es, rfl, h1, h2, h3⟩ := h
    exact ⟨v, es, rfl, h1, h2, fun i x hx => Rd.flat hf (h3 i x hx)⟩
  | nest e t q xs hl => exact h
  | imap k v es => exact h

/-! ### there is such a thing -/
theorem exC_some : ∀ {l : List Sh} {K : List Cell → Prop}, exC l K → ∃ cs, K cs ∧ (l.all Sh.flat = true → cs.all Cell.flat = true)
  | [], K, h => ⟨[], h, fun _ => rfl⟩
  | s :: l, K, h => by
    cases s with
    | int k => obtain ⟨n, h⟩ := h; obtain ⟨cs, h1, h2⟩ := exC_some h; exact ⟨_, h1, fun hf => by simp_all [Cell.flat]⟩
    | bool => obtain ⟨n, h⟩ := h; obtain ⟨cs, h1, h2⟩ := exC_some h; exact ⟨_, h1, fun hf => by simp_all [Cell.flat]⟩
    | str => obtain ⟨n, h⟩ := h; obtain ⟨cs, h1, h2⟩ := exC_some h; exact ⟨_, h1, fun hf => by simp_all [Cell.flat]⟩
    | sl t => obtain ⟨n, h⟩ := h; obtain ⟨cs, h1, h2⟩ := exC_some h; exact ⟨_, h1, fun hf => by simp [Sh.flat] at hf⟩
    | ifc => obtain ⟨n, h⟩ := h; obtain ⟨cs, h1, h2⟩ := exC_some h; exact ⟨_, h1, fun hf => by simp_all [Cell.flat]⟩
    | win i => obtain ⟨lo, hi, h⟩ := h; obtain ⟨cs, h1, h2⟩ := exC_some h; exact ⟨_, h1, fun hf => by simp_all [Cell.flat]⟩
    | fix c => obtain ⟨cs, h1, h2⟩ := exC_some (l := l) h; exact ⟨_, h1, fun hf => by simp_all [Sh.flat]⟩
    | val c => obtain ⟨cs, h1, h2⟩ := exC_some (l := l) h; exact ⟨_, h1, fun hf => by simp_all [Sh.flat]⟩
    | elem i o => obtain ⟨k, h⟩ := h; obtain ⟨cs, h1, h2⟩ := exC_some h; exact ⟨_, h1, fun hf => by simp_all [Cell.flat]⟩
    | addr t o => obtain ⟨k, h⟩ := h; obtain ⟨cs, h1, h2⟩ := exC_some h; exact ⟨_, h1, fun hf => by simp [Sh.flat] at hf⟩
theorem exT_some : ∀ {l : List (Bool × List Sh)} {K : List (Bool × List Cell) → Prop}, exT l K → ∃ es, K es ∧ ((l.all fun x => x.2.all Sh.flat) = true → (es.all fun x => x.2.all Cell.flat) = true)
  | [], K, h => ⟨[], h, fun _ => rfl⟩
  | (a, s) :: l, K, h => by
    obtain ⟨cs, h1, h2⟩ := exC_some (l := s) h
    obtain ⟨es, h3, h4⟩ := exT_some h1
    exact ⟨_, h3, fun hf => by
      simp only [List.all_cons, Bool.and_eq_true] at hf ⊢
      exact ⟨h2 hf.1, h4 hf.2⟩⟩
theorem exE_some {r : RS} {K : Ent → Prop} (h : exE r K) : ∃ e, K e ∧ (r.flat = true → e.flat = true) := by
  cases r with
  | one s =>
    simp only [exE] at h
    obtain ⟨cs, h1, h2⟩ := exC_some (l := [s]) h
    match cs, h1, h2 with
    | [c], h1, h2 => exact ⟨_, h1, fun hf => by simpa [Ent.flat] using h2 (by simpa [RS.flat] using hf)⟩
    | [], h1, _ => exact h1.elim
    | _ :: _ :: _, h1, _ => exact h1.elim
  | agg l =>
    obtain ⟨cs, h1, h2⟩ := exC_some (l := l) h
    exact ⟨_, h1, h2⟩
  | tup l =>
    obtain ⟨es, h1, h2⟩ := exT_some (l := l) h
    exact ⟨_, h1, h2⟩
theorem exO_some : ∀ {l : List OSh} {K : List Ob → Prop}, exO l K → ∃ os, K os ∧ (l.all OSh.flat = true → os.all Ob.flat = true)
  | [], K, h => ⟨[], h, fun _ => rfl⟩
  | s :: l, K, h => by
    cases s with
    | dead =>
      obtain ⟨os, h1, h2⟩ := exO_some (l := l) h
      exact ⟨_, h1, fun hf => by simp_all [Ob.flat]⟩
    | box ss =>
      obtain ⟨cs, h1, h2⟩ := exC_some (l := ss) h
      obtain ⟨os, h3, h4⟩ := exO_some h1
      exact ⟨_, h3, fun hf => by
        simp only [List.all_cons, Bool.and_eq_true] at hf ⊢
        exact ⟨h2 hf.1, h4 hf.2⟩⟩
    | row e t =>
      obtain ⟨xs, h⟩ := h
      obtain ⟨os, h1, h2⟩ := exO_some (l := l) h
      exact ⟨_, h1, fun hf => by
        simp only [List.all_cons, Bool.and_eq_true] at hf ⊢
        exact ⟨hf.1, h2 hf.2⟩⟩
    | imap k v =>
      obtain ⟨xs, h⟩ := h
      obtain ⟨os, h1, h2⟩ := exO_some (l := l) h
      exact ⟨_, h1, fun hf => by
        simp only [List.all_cons, Bool.and_eq_true] at hf ⊢
        exact ⟨rfl, h2 hf.2⟩⟩
    | nest e t q =>
      obtain ⟨xs, h⟩ := h
      obtain ⟨os, h1, h2⟩ := exO_some (l := l) h
      exact ⟨_, h1, fun hf => by
        simp only [List.all_cons, Bool.and_eq_true] at hf ⊢
        exact ⟨rfl, h2 hf.2⟩⟩
end
end Go.Ry
set_option linter.unusedVariables false
set_option linter.unusedSimpArgs false
namespace Go.Ry

theorem idx_get : ∀ {M : List Nat} {i k : Nat}, idx M i = some k → M[k]? = some i
  | [], _, _, h => by simp [idx] at h
  | m :: M, i, k, h => by
    simp only [idx, cond_eq_ite] at h
    split at h
    · rename_i hm
      simp only [beq_iff_eq] at hm
      simp only [Option.some.injEq] at h
      subst h; subst hm; rfl
    · split at h
      · rename_i k' hk
        simp only [Option.some.injEq] at h
        subst h
        simpa using idx_get hk
      · simp at h

theorem memN_iff : ∀ {n : Nat} {l : List Nat}, memN n l = true ↔ n ∈ l
  | n, [] => by simp [memN]
  | n, m :: l => by
    simp only [memN, cond_eq_ite, List.mem_cons]
    split
    · rename_i h
      simp only [beq_iff_eq] at h
      simp [h]
    · rename_i h
      simp only [beq_iff_eq] at h
      rw [memN_iff]
      constructor
      · exact .inr
      · rintro (rfl | h')
        · exact absurd rfl h
        · exact h'
theorem nodupN_nodup : ∀ {l : List Nat}, nodupN l = true → l.Nodup
  | [], _ => List.nodup_nil
  | m :: l, h => by
    simp only [nodupN, cond_eq_ite] at h
    split at h
    · simp at h
    · rename_i hm
      exact List.nodup_cons.2 ⟨fun hx => hm (memN_iff.2 hx), nodupN_nodup h⟩
theorem allLt_lt : ∀ {n : Nat} {l : List Nat}, allLt n l = true → ∀ i ∈ l, i < n
  | n, [], _, i, h => by simp at h
  | n, m :: l, h, i, hi => by
    simp only [allLt, cond_eq_ite] at h
    split at h
    · rename_i hm
      rcases List.mem_cons.1 hi with rfl | hi
      · exact Nat.le_of_ble_eq_true hm
      · exact allLt_lt h i hi
    · simp at h
theorem nodup_get {M : List Nat} (h : M.Nodup) {j k i : Nat} (hj : M[j]? = some i) (hk : M[k]? = some i) : j = k := by
  obtain ⟨a1, a2⟩ := List.getElem?_eq_some_iff.1 hj
  obtain ⟨b1, b2⟩ := List.getElem?_eq_some_iff.1 hk
  exact (List.getElem_inj h).1 (a2.trans b2.symm)

section
variable {S : Start} {st : St} {a : Act} {w w' : World} {Z Z' : Nat → Prop} {L L' : List Loc}

theorem St.ob_get {i : Nat} (h : i < st.objs.length) : st.objs[i]? = some (st.ob i) := by
  unfold St.ob
  rw [nth_eq, List.getElem?_eq_getElem h]
  rfl

def locs (L : List Loc) (M : List Nat) : List Loc := M.map fun i => (L[i]?).getD .gone

theorem locs_get {M : List Nat} {k i : Nat} {l : Loc} (hk : M[k]? = some i) (hl : L[i]? = some l) : (locs L M)[k]? = some l := by
  simp [locs, List.getElem?_map, hk, hl]

theorem lent_get {M : List Nat} {k : Nat} {o : Ob} {l : Loc} (hs : Sit S st a w Z L) (hM : ∀ i ∈ M, i < st.objs.length) (ho : (lent st M)[k]? = some o) (hl : (locs L M)[k]? = some l) :
    ∃ i o', M[k]? = some i ∧ st.objs[i]? = some o' ∧ L[i]? = some l ∧ o = mapO (renC (idx M)) o' := by
  unfold lent at ho
  rw [List.getElem?_map] at ho
  cases hk : M[k]? with
  | none => rw [hk] at ho; simp at ho
  | some i =>
    rw [hk] at ho
    simp only [Option.map_some, Option.some.injEq] at ho
    have hi := hM i (List.mem_of_getElem? hk)
    obtain ⟨l', hl', _⟩ := hs.loc (St.ob_get hi)
    have := locs_get hk hl'
    rw [hl] at this
    simp only [Option.some.injEq] at this
    subst this
    exact ⟨i, st.ob i, rfl, St.ob_get hi, hl', ho.symm⟩

theorem lent_sims {M : List Nat} {extra : Nat → Prop} (hs : Sit S st a w Z L) (hn : M.Nodup) (hM : ∀ i ∈ M, i < st.objs.length)
    (hx1 : ∀ b, extra b → b < w.heap.size) (hx2 : ∀ b, extra b → ∀ i ∈ M, ∀ (o : Ob) (l : Loc), st.objs[i]? = some o → L[i]? = some l → ∀ q, ¬ foot o l b q) :
    Sims w (fun b => Z b ∨ extra b) (locs L M) (lent st M) := by
  have hren : ∀ c v, CSim w (fun b => Z b ∨ extra b) L c v → CSim w (fun b => Z b ∨ extra b) (locs L M) (renC (idx M) c) v :=
    renC_sim fun i j l hij hl => locs_get (idx_get hij) hl
  refine ⟨by simp [locs, lent], fun k o l ho hl => ?_, fun i j o l o' l' h1 h2 h3 h4 hij b q f1 f2 => ?_, fun k o l ho hl b q hf hz => ?_, fun b hb => hb.elim (hs.sims.zin b) (hx1 b), hs.sims.tab.mono (fun _ _ => rfl) fun _ hb => .inl hb⟩
  · obtain ⟨i, o', h1, h2, h3, rfl⟩ := lent_get hs hM ho hl
    have h4 := hs.sims.ob i o' l h2 h3
    have h5 : OSim w (fun b => Z b ∨ extra b) L (mapO id o') l := OSim.map' (f := id) (fun c v hc => CSim.mono (fun _ _ => rfl) (fun _ hb => .inl hb) (Grows.refl _) hc) (fun _ hb => .inl hb) h4
    have h6 : mapO id o' = o' := by cases o' <;> simp [mapO]
    rw [h6] at h5
    exact OSim.map' hren (fun _ hb => hb) h5
  · obtain ⟨i', o1, a1, a2, a3, rfl⟩ := lent_get hs hM h1 h2
    obtain ⟨j', o2, b1, b2, b3, rfl⟩ := lent_get hs hM h3 h4
    rw [foot_map] at f1 f2
    exact hs.sims.sep i' j' o1 l o2 l' a2 a3 b2 b3 (fun e => hij (nodup_get hn a1 (e ▸ b1))) b q f1 f2
  · obtain ⟨i, o', h1, h2, h3, rfl⟩ := lent_get hs hM ho hl
    rw [foot_map] at hf
    rcases hz with hz | hz
    · exact hs.sims.zap i o' l h2 h3 b q hf hz
    · exact hx2 b hz i (List.mem_of_getElem? h1) o' l h2 h3 q hf

theorem feet_lent {M : List Nat} (hs : Sit S st a w Z L) (hM : ∀ i ∈ M, i < st.objs.length) {b q : Nat} (h : feet (lent st M) (locs L M) b q) :
    ∃ i ∈ M, ∃ (o : Ob) (l : Loc), st.objs[i]? = some o ∧ L[i]? = some l ∧ foot o l b q := by
  obtain ⟨k, o, l, h1, h2, h3⟩ := h
  obtain ⟨i, o', a1, a2, a3, rfl⟩ := lent_get hs hM h1 h2
  rw [foot_map] at h3
  exact ⟨i, List.mem_of_getElem? a1, o', l, a2, a3, h3⟩

theorem backTo_spec (f : Nat → Option Nat) : ∀ {M : List Nat} {os : List Ob} {st : St}, M.Nodup → os.length = M.length → (∀ i ∈ M, i < st.objs.length) →
    (backTo f st M os).tmps = st.tmps ∧ (backTo f st M os).objs.length = st.objs.length ∧
    (∀ (k i : Nat) (o : Ob), M[k]? = some i → os[k]? = some o → (backTo f st M os).objs[i]? = some (mapO (renC f) o)) ∧ (∀ i : Nat, i ∉ M → (backTo f st M os).objs[i]? = st.objs[i]?)
  | [], [], st, _, _, _ => ⟨rfl, rfl, fun k i o h => by simp at h, fun _ _ => rfl⟩
  | [], _ :: _, _, _, h, _ => by simp at h
  | _ :: _, [], _, _, h, _ => by simp at h
  | m :: M, o :: os, st, hn, hl, hM => by
    have hn' := List.nodup_cons.1 hn
    have hlen : (st.setOb m (mapO (renC f) o)).objs.length = st.objs.length := by simp [St.setOb, setNth_eq]
    obtain ⟨h1, h2, h3, h4⟩ := backTo_spec f (M := M) (os := os) (st := st.setOb m (mapO (renC f) o)) hn'.2 (by simpa using hl) (fun i hi => by rw [hlen]; exact hM i (List.mem_cons_of_mem _ hi))
    refine ⟨h1, h2.trans hlen, fun k i o' hk ho => ?_, fun i hi => ?_⟩
    · cases k with
      | zero =>
        simp only [List.getElem?_cons_zero, Option.some.injEq] at hk ho
        subst hk; subst ho
        show (backTo f (st.setOb m (mapO (renC f) o)) M os).objs[m]? = _
        rw [h4 m hn'.1]
        simp only [St.setOb, setNth_eq]
        rw [List.getElem?_set_self (hM m List.mem_cons_self)]
      | succ k => exact h3 k i o' (by simpa using hk) (by simpa using ho)
    · have hi' : i ≠ m ∧ i ∉ M := ⟨fun e => hi (e ▸ List.mem_cons_self), fun h => hi (List.mem_cons_of_mem _ h)⟩
      show (backTo f (st.setOb m (mapO (renC f) o)) M os).objs[i]? = _
      rw [h4 i hi'.2]
      simp only [St.setOb, setNth_eq]
      rw [List.getElem?_set_ne (by omega)]

theorem rangeN_get : ∀ (n s k : Nat), (rangeN n s)[k]? = if k < n then some (s + k) else none
  | 0, s, k => by simp [rangeN]
  | n + 1, s, 0 => by simp [rangeN]
  | n + 1, s, k + 1 => by
    simp only [rangeN, List.getElem?_cons_succ]
    rw [rangeN_get n (s + 1) k]
    by_cases h : k < n
    · rw [if_pos h, if_pos (by omega)]
      congr 1
      omega
    · rw [if_neg h, if_neg (by omega)]
theorem rangeN_length : ∀ (n s : Nat), (rangeN n s).length = n
  | 0, _ => rfl
  | n + 1, s => by simp [rangeN, rangeN_length n (s + 1)]
end
end Go.Ry
set_option linter.unusedVariables false
set_option linter.unusedSimpArgs false
namespace Go.Ry

section
variable {S : Start} {st : St} {a : Act} {w w' : World} {Z Z' : Nat → Prop} {L L' : List Loc}

theorem back_sit {M : List Nat} {extra : Nat → Prop} {os nw : List Ob} {r : Ent} {v : Value} (hs : Sit S st a w Z L) (hn : M.Nodup) (hM : ∀ i ∈ M, i < st.objs.length)
    (hlen : os.length = M.length) (hflat : (∀ b, ¬ extra b) ∨ (r.flat = true ∧ (os ++ nw).all Ob.flat = true))
    (h1 : Sims w' Z' L' (os ++ nw)) (h2 : ESim w' Z' L' r v) (h3 : Grows (locs L M) L') (h4 : Keeps w (feet (lent st M) (locs L M)) w') (h5 : ∀ b, Z b ∨ extra b → Z' b)
    (h6 : ∀ b, Z' b → (Z b ∨ extra b) ∨ w.heap.size ≤ b ∨ ∀ q, feet (lent st M) (locs L M) b q)
    (h7 : ∀ (i : Nat) (o : Ob) (l : Loc), (os ++ nw)[i]? = some o → L'[i]? = some l → ∀ b q, foot o l b q → w.heap.size ≤ b ∨ feet (lent st M) (locs L M) b q) :
    ∃ Z2 L2, Sit S (backTo (nth (M ++ rangeN nw.length st.objs.length)) ⟨st.tmps, st.objs ++ nw.map (mapO (renC (nth (M ++ rangeN nw.length st.objs.length))))⟩ M os) a w' Z2 L2 ∧
      ESim w' Z2 L2 (mapE (renC (nth (M ++ rangeN nw.length st.objs.length))) r) v ∧ Grows L L2 := by
  let N := M ++ rangeN nw.length st.objs.length
  let f := nth N
  let L2 := L ++ L'.drop M.length
  let Z2 : Nat → Prop := fun b => Z' b ∧ (extra b → Z b)
  have hL : L.length = st.objs.length := hs.sims.len
  have hL' : L'.length = M.length + nw.length := by rw [h1.len, List.length_append, hlen]
  have hN : ∀ k, N[k]? = if k < M.length then M[k]? else if k < M.length + nw.length then some (st.objs.length + (k - M.length)) else none := by
    intro k
    by_cases hk : k < M.length
    · rw [if_pos hk, List.getElem?_append_left hk]
    · rw [if_neg hk, List.getElem?_append_right (by omega), rangeN_get]
      by_cases hk2 : k < M.length + nw.length
      · rw [if_pos (by omega), if_pos hk2]
      · rw [if_neg (by omega), if_neg hk2]
  -- a number of the callee's and one of the caller's lie at the same place
  have hf : ∀ k i l, f k = some i → L'[k]? = some l → L2[i]? = some l := by
    intro k i l hk hl
    have hk' : N[k]? = some i := by rw [← nth_eq]; exact hk
    rw [hN] at hk'
    split at hk'
    · rename_i hkl
      have hi := hM i (List.mem_of_getElem? hk')
      obtain ⟨l', hl', _⟩ := hs.loc (St.ob_get hi)
      have := h3 k l' (locs_get hk' hl')
      rw [hl] at this
      simp only [Option.some.injEq] at this
      subst this
      exact Grows.append _ _ _ _ hl'
    · split at hk'
      · simp only [Option.some.injEq] at hk'
        subst hk'
        show (L ++ L'.drop M.length)[st.objs.length + (k - M.length)]? = some l
        rw [List.getElem?_append_right (by omega), List.getElem?_drop, ← hl]
        congr 1
        omega
      · simp at hk'
  have hM0 : ∀ i ∈ M, i < (st.objs ++ nw.map (mapO (renC f))).length := fun i hi => by
    have := hM i hi
    simp only [List.length_append]; omega
  obtain ⟨b1, b2, b3, b4⟩ := backTo_spec f (M := M) (os := os) (st := ⟨st.tmps, st.objs ++ nw.map (mapO (renC f))⟩) hn hlen hM0
  let os2 := (backTo f ⟨st.tmps, st.objs ++ nw.map (mapO (renC f))⟩ M os).objs
  have hos2len : os2.length = st.objs.length + nw.length := by rw [show os2.length = _ from b2]; simp
  let D : Nat → Prop := fun i => i ∈ M ∨ st.objs.length ≤ i
  -- what has changed comes from the callee
  have from_ : ∀ (i : Nat) (o : Ob) (l : Loc), D i → os2[i]? = some o → L2[i]? = some l → ∃ (k : Nat) (o' : Ob), f k = some i ∧ (os ++ nw)[k]? = some o' ∧ o = mapO (renC f) o' ∧ L'[k]? = some l := by
    intro i o l hi ho hl
    by_cases him : i ∈ M
    · obtain ⟨k, hk⟩ := List.getElem?_of_mem him
      have hkl := (List.getElem?_eq_some_iff.1 hk).1
      have hko : os[k]? = some os[k] := List.getElem?_eq_getElem (by omega)
      have := b3 k i _ hk hko
      have ho' : os2[i]? = some (mapO (renC f) os[k]) := this
      rw [ho] at ho'
      simp only [Option.some.injEq] at ho'
      have hlk : L'[k]? = some L'[k] := List.getElem?_eq_getElem (by omega)
      have hfk : f k = some i := by
        show nth N k = some i
        rw [nth_eq, hN, if_pos hkl]; exact hk
      have := hf k i _ hfk hlk
      rw [hl] at this
      simp only [Option.some.injEq] at this
      exact ⟨k, os[k], hfk, by rw [List.getElem?_append_left (by omega)]; exact hko, ho', by rw [this]; exact hlk⟩
    · have hige : st.objs.length ≤ i := hi.resolve_left him
      have ho2 : os2[i]? = (st.objs ++ nw.map (mapO (renC f)))[i]? := b4 i him
      rw [ho, List.getElem?_append_right hige, List.getElem?_map] at ho2
      cases hnw : nw[i - st.objs.length]? with
      | none => rw [hnw] at ho2; simp at ho2
      | some o' =>
        rw [hnw] at ho2
        simp only [Option.map_some, Option.some.injEq] at ho2
        have hlt := (List.getElem?_eq_some_iff.1 hnw).1
        let k := M.length + (i - st.objs.length)
        have hfk : f k = some i := by
          show nth N k = some i
          rw [nth_eq, hN, if_neg (by omega), if_pos (by omega)]
          congr 1
          omega
        have hlk : L'[k]? = some L'[k] := List.getElem?_eq_getElem (by omega)
        have := hf k i _ hfk hlk
        rw [hl] at this
        simp only [Option.some.injEq] at this
        refine ⟨k, o', hfk, ?_, ho2, by rw [this]; exact hlk⟩
        rw [List.getElem?_append_right (by omega), ← hnw]
        congr 1
        omega
  have hZ2 : ∀ b, Z b → Z2 b := fun b hb => ⟨h5 b (.inl hb), fun _ => hb⟩
  -- without what was seen for the call alone
  have toO : ∀ (k : Nat) (o' : Ob) (l : Loc), (os ++ nw)[k]? = some o' → L'[k]? = some l → OSim w' Z2 L2 (mapO (renC f) o') l := by
    intro k o' l ho hl
    have ho1 := h1.ob k o' l ho hl
    have ho2 : OSim w' Z2 L' o' l := by
      rcases hflat with hx | ⟨_, hx⟩
      · have : OSim w' Z2 L' (mapO id o') l := OSim.map' (f := id) (fun c v hc => CSim.mono (fun _ _ => rfl) (fun b hb => ⟨hb, fun e => absurd e (hx b)⟩) (Grows.refl _) hc) (fun b hb => ⟨hb, fun e => absurd e (hx b)⟩) ho1
        have e : mapO id o' = o' := by cases o' <;> simp [mapO]
        rwa [e] at this
      · exact OSim.flat (List.all_eq_true.1 hx o' (List.mem_of_getElem? ho)) ho1
    exact OSim.map' (renC_sim hf) (fun _ hb => hb) ho2
  have toE : ESim w' Z2 L2 (mapE (renC f) r) v := by
    have he : ESim w' Z2 L' r v := by
      rcases hflat with hx | ⟨hx, _⟩
      · exact ESim.mono (fun _ _ => rfl) (fun b hb => ⟨hb, fun e => absurd e (hx b)⟩) (Grows.refl _) h2
      · exact ESim.flat hx h2
    exact ESim.map (renC_sim hf) he
  have foot2 : ∀ (o' : Ob) (l : Loc), foot (mapO (renC f) o') l = foot o' l := foot_map _
  have key : Sit S ⟨st.tmps, os2⟩ a w' Z2 L2 := by
    refine hs.update (feet (lent st M) (locs L M)) D h4 (fun b q hb hz => ?_) hZ2 (Grows.append _ _) ?_ ?_ ?_ ?_ ?_ ?_ ?_ ?_ ?_ ?_
    · obtain ⟨i, _, o, l, a1, a2, a3⟩ := feet_lent hs hM hb
      exact hs.sims.zap i o l a1 a2 b q a3 hz
    · rw [hos2len]
      show (L ++ L'.drop M.length).length = _
      rw [List.length_append, List.length_drop, hL, hL']
      omega
    · intro i hi hil
      have him : i ∉ M := fun e => hi (.inl e)
      have hlt : i < st.objs.length := by
        rcases Nat.lt_or_ge i st.objs.length with h | h
        · exact h
        · exact absurd (.inr h) hi
      have : os2[i]? = (st.objs ++ nw.map (mapO (renC f)))[i]? := b4 i him
      rw [this, List.getElem?_append_left hlt]
    · intro i o l hi ho hl b q hq hb
      obtain ⟨j, hj, o', l', a1, a2, a3⟩ := feet_lent hs hM hb
      exact hs.sims.sep i j o l o' l' ho hl a1 a2 (fun e => hi (.inl (e ▸ hj))) b q hq a3
    · intro i o l hi ho hl
      obtain ⟨k, o', _, c2, rfl, c4⟩ := from_ i o l hi ho hl
      exact toO k o' l c2 c4
    · intro i o l hi ho hl b q hq
      obtain ⟨k, o', _, c2, rfl, c4⟩ := from_ i o l hi ho hl
      rw [foot2] at hq
      exact h7 k o' l c2 c4 b q hq
    · intro i j o l o' l' hi hj ho hl ho' hl' hij b q f1 f2
      obtain ⟨k, p, c1, c2, rfl, c4⟩ := from_ i o l hi ho hl
      obtain ⟨k', p', d1, d2, rfl, d4⟩ := from_ j o' l' hj ho' hl'
      rw [foot2] at f1 f2
      refine h1.sep k k' p l p' l' c2 c4 d2 d4 (fun e => ?_) b q f1 f2
      subst e
      rw [c1] at d1
      exact hij (by simpa using d1)
    · intro i o l hi ho hl b q hq hz
      obtain ⟨k, o', _, c2, rfl, c4⟩ := from_ i o l hi ho hl
      rw [foot2] at hq
      exact h1.zap k o' l c2 c4 b q hq hz.1
    · rintro b ⟨hb, he⟩
      rcases h6 b hb with (hz | hx) | hfr | hft
      · exact .inl hz
      · exact .inl (he hx)
      · exact .inr (.inl ⟨hfr, h1.zin b hb⟩)
      · exact .inr (.inr hft)
    · exact fun b hb => h1.zin b hb.1
    · intro b q hb
      obtain ⟨i, _, o, l, a1, a2, a3⟩ := feet_lent hs hM hb
      exact hs.fnew i o l a1 a2 b q a3
  refine ⟨Z2, L2, ?_, toE, Grows.append _ _⟩
  have e : (backTo f ⟨st.tmps, st.objs ++ nw.map (mapO (renC f))⟩ M os) = ⟨st.tmps, os2⟩ := by
    cases hb : backTo f ⟨st.tmps, st.objs ++ nw.map (mapO (renC f))⟩ M os with
    | mk t o =>
      have := b1
      rw [hb] at this
      simp only at this
      subst this
      show _ = St.mk _ (backTo f _ M os).objs
      rw [hb]
  rw [show (backTo (nth (M ++ rangeN nw.length st.objs.length)) _ M os) = _ from e]
  exact key
end
end Go.Ry
set_option linter.unusedVariables false
set_option linter.unusedSimpArgs false
namespace Go.Ry

section
variable {P : Program} {S : Start} {st : St} {a : Act} {w w' : World} {Z Z' : Nat → Prop} {L L' : List Loc} {T : Tab} {C : Calls_} {G : List (Nat × Sig)} {o : Oper} {K : St → Prop} {next : Act → World → Prop} {Q : Exit → Act → World → Prop}

def Told (P : Program) (C : Calls_) : Prop := ∀ g as os r os', C g as os r os' → Triple P g as os r os'

theorem exA_some {l : Option (List OSh)} {os : List Ob} {K : List Ob → Prop} (h : exA l os K) : ∃ os', K os' ∧ (∀ l', l = some l' → l'.all OSh.flat = true → os'.all Ob.flat = true) ∧ (l = none → os' = os) := by
  cases l with
  | none => exact ⟨os, h, fun l' e => by simp at e, fun _ => rfl⟩
  | some l =>
    obtain ⟨os', h1, h2⟩ := exO_some (l := l) h
    exact ⟨os', h1, fun l' e => by
      simp only [Option.some.injEq] at e
      subst e
      exact h2, fun e => by simp at e⟩

def Opened (L : List Loc) (hs : List (Nat × Nat × Nat)) : Prop := ∀ p ∈ hs, ∃ v sz n szj nj, L[p.1]? = some (.row v sz n) ∧ L[p.2.2]? = some (.row (n.h p.2.1) szj nj)
theorem Opened.mono {hs : List (Nat × Nat × Nat)} (h : Opened L hs) (hl : Grows L L') : Opened L' hs := fun p hp => by
  obtain ⟨v, sz, n, szj, nj, h1, h2⟩ := h p hp
  exact ⟨v, sz, n, szj, nj, hl _ _ h1, hl _ _ h2⟩

theorem Sit.open1 (h : Sit S st a w Z L) {i e : Nat} {t : Ty} {q : Inn} {xs : List t.den} {k : Nat} (hob : st.ob i = .nest e t q xs none) :
    ∃ v hd, L[i]? = some (.row v t.size ⟨xs.length, hd⟩) ∧ (∃ a n c, hd k = .slice a n c) ∧
      Sit S ((st.setOb i (.nest e t q xs (some k))).addOb (.row q.e q.s (innerOf t q (xs.getD k t.dflt)))) a w Z (L ++ [.row (hd k) q.s.size (innerOf t q (xs.getD k t.dflt)).length]) := by
  obtain ⟨v, es, hd, q1, hl, q3, ht, q4, q5⟩ := h.nest hob
  obtain ⟨hfl, hs0, hqo⟩ := nest_flat ht
  have hin0 : (∃ a n c, hd k = .slice a n c) ∧ ∃ fs, w.ownsRow 0 q.e q.s.size (hd k) (innerOf t q (xs.getD k t.dflt)).length fs ∧ RowRd w none1 q.s (innerOf t q (xs.getD k t.dflt)) fs := by
    rcases Nat.lt_or_ge k xs.length with hk | hk
    · have hkx : xs[k]? = some (xs.getD k t.dflt) := by simp [List.getD, List.getElem?_eq_getElem hk]
      exact ⟨(q5.head k hk).2, q5.inner k _ hkx (by simp)⟩
    · have hx : xs.getD k t.dflt = t.dflt := by simp [List.getD, List.getElem?_eq_none hk]
      rw [hx, innerOf_dflt ht, q5.out k hk]
      exact ⟨⟨_, _, _, rfl⟩, [], World.ownsRow_nil w 0 q.e q.s.size, fun i x hi => by simp at hi⟩
  obtain ⟨hsl, fs, a1, a2⟩ := hin0
  have hlt := (List.getElem?_eq_some_iff.1 q1).1
  have hlen := h.sims.len
  generalize hin : innerOf t q (xs.getD k t.dflt) = ys at *
  refine ⟨v, hd, hl, hsl, ?_⟩
  have hL : ∀ l, (L ++ [l])[i]? = some (.row v t.size ⟨xs.length, hd⟩) := fun l => Grows.append _ _ i _ hl
  unfold St.setOb St.addOb
  simp only [setNth_eq]
  have cases_ : ∀ (n : Nat) (o1 : Ob) (l1 : Loc), (n = i ∨ ¬ n < st.objs.length) → (st.objs.set i (.nest e t q xs (some k)) ++ [.row q.e q.s ys])[n]? = some o1 → (L ++ [Loc.row (hd k) q.s.size ys.length])[n]? = some l1 →
      (n = i ∧ o1 = .nest e t q xs (some k) ∧ l1 = .row v t.size ⟨xs.length, hd⟩) ∨ (n = st.objs.length ∧ o1 = .row q.e q.s ys ∧ l1 = .row (hd k) q.s.size ys.length) := by
    intro n o1 l1 hn h1 h2
    rcases hn with rfl | hn
    · rw [List.getElem?_append_left (by simpa using hlt), List.getElem?_set_self hlt] at h1
      rw [hL] at h2
      simp only [Option.some.injEq] at h1 h2
      exact .inl ⟨rfl, h1.symm, h2.symm⟩
    · have hn' : n = st.objs.length := by
        have := (List.getElem?_eq_some_iff.1 h1).1
        simp at this; omega
      subst hn'
      rw [List.getElem?_append_right (by simp)] at h1
      rw [← hlen, List.getElem?_append_right (Nat.le_refl _)] at h2
      simp at h1 h2
      exact .inr ⟨rfl, h1.symm, h2.symm⟩
  have hfoot : ∀ b q', foot (.nest e t q xs (some k)) (.row v t.size ⟨xs.length, hd⟩) b q' → foot (.nest e t q xs none) (.row v t.size ⟨xs.length, hd⟩) b q' := fun b q' hb => hb.elim .inl fun ⟨k', h1, h2⟩ => .inr ⟨k', by simp, h2⟩
  have hfoot2 : ∀ b q', foot (.row q.e q.s ys) (.row (hd k) q.s.size ys.length) b q' → foot (.nest e t q xs none) (.row v t.size ⟨xs.length, hd⟩) b q' := fun b q' hb => .inr ⟨k, by simp, hb⟩
  have hparts : ∀ b q', foot (.nest e t q xs (some k)) (.row v t.size ⟨xs.length, hd⟩) b q' → foot (.row q.e q.s ys) (.row (hd k) q.s.size ys.length) b q' → False := by
    intro b q' h1 h2
    rcases h1 with h1 | ⟨k', h1, h3⟩
    · exact (q5.sep k b h2).1 h1
    · exact (q5.sep k b h2).2 k' (fun e => h1 (by rw [e])) h3
  refine h.update (foot (.nest e t q xs none) (.row v t.size ⟨xs.length, hd⟩)) (fun n => n = i ∨ ¬ n < st.objs.length) (Keeps.refl _ _) (fun b q' hx hz => h.sims.zap i _ _ q1 hl b q' hx hz) (fun _ hb => hb) (Grows.append _ _) (by simp [hlen]) ?_ ?_ ?_ ?_ ?_ ?_ ?_ ?_ ?_
  · intro n hn hnl
    have hn1 : n ≠ i := fun e => hn (.inl e)
    have hn2 : n < st.objs.length := by
      rcases Nat.lt_or_ge n st.objs.length with hx | hx
      · exact hx
      · exact absurd (.inr (by omega)) hn
    rw [List.getElem?_append_left (by simpa using hn2), List.getElem?_set_ne (by omega)]
  · intro n o1 l1 hn h1 h2 b q' hq hx
    exact h.sims.sep n i o1 l1 _ _ h1 h2 q1 hl (fun e => hn (.inl e)) b q' hq hx
  · intro n o1 l1 hn h1 h2
    rcases cases_ n o1 l1 hn h1 h2 with ⟨_, rfl, rfl⟩ | ⟨_, rfl, rfl⟩
    · exact ⟨v, es, hd, rfl, q3, ht, q4, ⟨q5.plain, q5.head, fun k' x hx hk' => q5.inner k' x hx (by simp), q5.sep, q5.out⟩⟩
    · exact ⟨hd k, fs, rfl, hs0, a1, fun i x hi => Rd.flat hfl (a2 i x hi)⟩
  · intro n o1 l1 hn h1 h2 b q' hq
    rcases cases_ n o1 l1 hn h1 h2 with ⟨_, rfl, rfl⟩ | ⟨_, rfl, rfl⟩
    · exact .inr (hfoot b q' hq)
    · exact .inr (hfoot2 b q' hq)
  · intro n n' o1 l1 o2 l2 hn hn' h1 h2 h3 h4 hnn b q' f1 f2
    rcases cases_ n o1 l1 hn h1 h2 with ⟨c1, rfl, rfl⟩ | ⟨c1, rfl, rfl⟩
    · rcases cases_ n' o2 l2 hn' h3 h4 with ⟨c2, rfl, rfl⟩ | ⟨c2, rfl, rfl⟩
      · omega
      · exact hparts b q' f1 f2
    · rcases cases_ n' o2 l2 hn' h3 h4 with ⟨c2, rfl, rfl⟩ | ⟨c2, rfl, rfl⟩
      · exact hparts b q' f2 f1
      · omega
  · intro n o1 l1 hn h1 h2 b q' hq hz
    rcases cases_ n o1 l1 hn h1 h2 with ⟨_, rfl, rfl⟩ | ⟨_, rfl, rfl⟩
    · exact h.sims.zap i _ _ q1 hl b q' (hfoot b q' hq) hz
    · exact h.sims.zap i _ _ q1 hl b q' (hfoot2 b q' hq) hz
  · exact fun b hb => .inl hb
  · exact fun b hb => h.sims.zin b hb
  · exact fun b q' hx => h.fnew i _ _ q1 hl b q' hx

theorem Sit.close1 (h : Sit S st a w Z L) {i j e f k : Nat} {t s : Ty} {q : Inn} {xs : List t.den} {ys : List s.den} {x : t.den} (hob : st.ob i = .nest e t q xs (some k)) (hoj : st.ob j = .row f s ys) (hf : f = q.e) (hsq : s = q.s) (hji : j ≠ i)
    (hx : readV t (setNth (t.cells (xs.getD k t.dflt)) q.o (.sl s ys)) = some x) (hop : ∃ v sz n szj nj, L[i]? = some (.row v sz n) ∧ L[j]? = some (.row (n.h k) szj nj)) :
    Sit S ((st.setOb i (.nest e t q (xs.set k x) none)).setOb j .dead) a w Z L := by
  subst hf hsq
  obtain ⟨v, es, hd, q1, hl, q3, ht, q4, q5⟩ := h.nest hob
  obtain ⟨vj, ej, j1, j2, j3, j4, j5⟩ := h.row hoj
  obtain ⟨v', sz', n', szj, nj, o1, o2⟩ := hop
  rw [hl] at o1
  simp only [Option.some.injEq, Loc.row.injEq] at o1
  obtain ⟨rfl, rfl, rfl⟩ := o1
  rw [j2] at o2
  simp only [Option.some.injEq, Loc.row.injEq] at o2
  obtain ⟨rfl, rfl, _⟩ := o2
  obtain ⟨hfl, hs0, hqo⟩ := nest_flat ht
  have hlt := (List.getElem?_eq_some_iff.1 q1).1
  have hltj := (List.getElem?_eq_some_iff.1 j1).1
  have hlen := h.sims.len
  obtain ⟨e1, e2⟩ := readV_at hx
  have hXl := Ty.cells_length t (xs.getD k t.dflt)
  have hin : innerOf t q x = ys := by
    have hat : (setNth (t.cells (xs.getD k t.dflt)) q.o (.sl q.s ys))[q.o]? = some (.sl q.s ys) := by rw [setNth_eq, List.getElem?_set_self (by omega)]
    rcases e2 q.o _ hat with h1 | ⟨h1, _⟩
    · rw [(nest_cell ht x).1] at h1
      simp only [Option.some.injEq, Cell.sl.injEq, heq_eq_eq, true_and] at h1
      exact h1
    · simp at h1
  have hplain : ∀ (p : Nat) (c : Cell), p ≠ q.o → (t.cells x)[p]? = some c → (t.cells (xs.getD k t.dflt))[p]? = some c := by
    intro p c hp hc
    have hpp : p < t.size := by rw [← Ty.cells_length t x]; exact (List.getElem?_eq_some_iff.1 hc).1
    have hat : (setNth (t.cells (xs.getD k t.dflt)) q.o (.sl q.s ys))[p]? = some (t.cells (xs.getD k t.dflt))[p] := by
      rw [setNth_eq, List.getElem?_set_ne (by omega), List.getElem?_eq_getElem (by omega)]
    rcases e2 p _ hat with h1 | ⟨_, s, h1⟩
    · rw [h1] at hc
      rw [List.getElem?_eq_getElem (by omega)]
      exact hc
    · have := (nest_cell ht x).2 p _ hp h1
      simp [Cell.plain] at this
  have hN : Nests w t q (xs.set k x) none v es hd := by
    refine ⟨fun k' y hy p c u hp hc hu => ?_, fun k' hk' => q5.head k' (by simpa using hk'), fun k' y hy _ => ?_, q5.sep, fun k' hk' => q5.out k' (by simpa using hk')⟩
    · have hk' : k' < xs.length := by have := (List.getElem?_eq_some_iff.1 hy).1; simpa using this
      by_cases hkk : k' = k
      · subst hkk
        rw [List.getElem?_set_self hk'] at hy
        simp only [Option.some.injEq] at hy
        subst hy
        have hkx : xs[k']? = some (xs.getD k' t.dflt) := by simp [List.getD, List.getElem?_eq_getElem hk']
        exact q5.plain k' _ hkx p c u hp (hplain p c hp hc) hu
      · rw [List.getElem?_set_ne (by omega)] at hy
        exact q5.plain k' y hy p c u hp hc hu
    · have hk' : k' < xs.length := by have := (List.getElem?_eq_some_iff.1 hy).1; simpa using this
      by_cases hkk : k' = k
      · subst hkk
        rw [List.getElem?_set_self hk'] at hy
        simp only [Option.some.injEq] at hy
        subst hy
        rw [hin]
        exact ⟨ej, j4, fun i x hi => Rd.flat hfl (j5 i x hi)⟩
      · rw [List.getElem?_set_ne (by omega)] at hy
        exact q5.inner k' y hy (by simp only [ne_eq, Option.some.injEq]; omega)
  unfold St.setOb
  simp only [setNth_eq]
  have cases_ : ∀ (n : Nat) (o1 : Ob) (l1 : Loc), (n = i ∨ n = j) → ((st.objs.set i (.nest e t q (xs.set k x) none)).set j .dead)[n]? = some o1 → L[n]? = some l1 →
      o1 = .dead ∨ (n = i ∧ o1 = .nest e t q (xs.set k x) none ∧ l1 = .row v t.size ⟨xs.length, hd⟩) := by
    intro n o1 l1 hn h1 h2
    by_cases hnj : n = j
    · subst hnj
      rw [List.getElem?_set_self (by simpa using hltj)] at h1
      simp only [Option.some.injEq] at h1
      exact .inl h1.symm
    · have hni : n = i := by omega
      subst hni
      rw [List.getElem?_set_ne (by omega), List.getElem?_set_self hlt] at h1
      rw [hl] at h2
      simp only [Option.some.injEq] at h1 h2
      exact .inr ⟨rfl, h1.symm, h2.symm⟩
  have hf : ∀ b q', foot (.nest e t q (xs.set k x) none) (.row v t.size ⟨xs.length, hd⟩) b q' → foot (.nest e t q xs (some k)) (.row v t.size ⟨xs.length, hd⟩) b q' ∨ foot (.row q.e q.s ys) (.row (hd k) q.s.size ys.length) b q' := by
    intro b q' hb
    rcases hb with hb | ⟨k', _, hb⟩
    · exact .inl (.inl hb)
    · by_cases hk' : k' = k
      · subst hk'; exact .inr hb
      · exact .inl (.inr ⟨k', fun e => hk' (by simpa using e.symm), hb⟩)
  refine h.update (fun b q' => foot (.nest e t q xs (some k)) (.row v t.size ⟨xs.length, hd⟩) b q' ∨ foot (.row q.e q.s ys) (.row (hd k) q.s.size ys.length) b q') (fun n => n = i ∨ n = j) (Keeps.refl _ _)
    (fun b q' hx hz => hx.elim (fun hx => h.sims.zap i _ _ q1 hl b q' hx hz) (fun hx => h.sims.zap j _ _ j1 j2 b q' hx hz)) (fun _ hb => hb) (Grows.refl _) (by simp [hlen]) ?_ ?_ ?_ ?_ ?_ ?_ ?_ ?_ ?_
  · intro n hn hnl
    have hn0 : n ≠ i := fun e => hn (.inl e)
    have hn1 : n ≠ j := fun e => hn (.inr e)
    rw [List.getElem?_set_ne (by omega), List.getElem?_set_ne (by omega)]
  · intro n o1 l1 hn h1 h2 b q' hq hx
    rcases hx with hx | hx
    · exact h.sims.sep n i o1 l1 _ _ h1 h2 q1 hl (fun e => hn (.inl e)) b q' hq hx
    · exact h.sims.sep n j o1 l1 _ _ h1 h2 j1 j2 (fun e => hn (.inr e)) b q' hq hx
  · intro n o1 l1 hn h1 h2
    rcases cases_ n o1 l1 hn h1 h2 with rfl | ⟨_, rfl, rfl⟩
    · trivial
    · exact ⟨v, es, hd, by simp, q3, ht, by simpa using q4, hN⟩
  · intro n o1 l1 hn h1 h2 b q' hq
    rcases cases_ n o1 l1 hn h1 h2 with rfl | ⟨_, rfl, rfl⟩
    · exact hq.elim
    · exact .inr (hf b q' hq)
  · intro n n' o1 l1 o2 l2 hn hn' h1 h2 h3 h4 hnn b q' f1 f2
    rcases cases_ n o1 l1 hn h1 h2 with rfl | ⟨c1, rfl, rfl⟩
    · exact f1.elim
    · rcases cases_ n' o2 l2 hn' h3 h4 with rfl | ⟨c2, rfl, rfl⟩
      · exact f2.elim
      · omega
  · intro n o1 l1 hn h1 h2 b q' hq hz
    rcases cases_ n o1 l1 hn h1 h2 with rfl | ⟨_, rfl, rfl⟩
    · exact hq.elim
    · rcases hf b q' hq with hx | hx
      · exact h.sims.zap i _ _ q1 hl b q' hx hz
      · exact h.sims.zap j _ _ j1 j2 b q' hx hz
  · exact fun b hb => .inl hb
  · exact fun b hb => h.sims.zin b hb
  · exact fun b q' hx => hx.elim (fun hx => h.fnew i _ _ q1 hl b q' hx) (fun hx => h.fnew j _ _ j1 j2 b q' hx)

theorem closeW_sound : ∀ {hs : List (Nat × Nat × Nat)} {st : St} {K : St → Prop}, Sit S st a w Z L → Opened L hs → closeW st hs K → ∃ st', Sit S st' a w Z L ∧ K st'
  | [], st, K, h, _, hk => ⟨st, h, hk⟩
  | (i, k, j) :: hs, st, K, h, ho, hk => by
    simp only [closeW] at hk
    split at hk
    · rename_i f s ys hoj
      split at hk
      · rename_i e t q xs m hob
        split at hk
        · rename_i x hc hx
          simp only [Bool.and_eq_true, Bool.not_eq_true'] at hc
          obtain ⟨c2, c3, c4⟩ := hc
          obtain ⟨c1, hk⟩ := hk
          subst c1
          have hji : j ≠ i := fun e => by subst e; simp at c4
          exact closeW_sound (h.close1 hob hoj (Nat.eq_of_beq_eq_true c2) (Ty.eqb_eq c3) hji hx (ho _ List.mem_cons_self)) (fun p hp => ho p (List.mem_cons_of_mem _ hp)) hk
        · exact hk.elim
      · exact hk.elim
    · exact hk.elim

theorem openC_sound {c : Cell} {v : Value} {st' : St} {c' : Cell} {hs : List (Nat × Nat × Nat)} (h : Sit S st a w Z L) (hc : CSim w Z L c v) (he : openC st c = (st', c', hs)) :
    ∃ L', Sit S st' a w Z L' ∧ Grows L L' ∧ CSim w Z L' c' v ∧ Opened L' hs := by
  unfold openC at he
  split at he
  · rename_i i k
    split at he
    · rename_i e t q xs hob
      simp only [Prod.mk.injEq] at he
      obtain ⟨rfl, rfl, rfl⟩ := he
      obtain ⟨v', hd, hl, h2, h3⟩ := h.open1 (k := k) hob
      obtain ⟨h0, u, sz, n, h4, h5⟩ := hc
      rw [hl] at h4
      simp only [Option.some.injEq, Loc.row.injEq] at h4
      obtain ⟨rfl, rfl, rfl⟩ := h4
      have hnew : ∀ l : Loc, (L ++ [l])[st.objs.length]? = some l := by
        intro l
        rw [← h.sims.len, List.getElem?_append_right (Nat.le_refl _)]
        simp
      refine ⟨_, h3, Grows.append _ _, ⟨h0, _, _, by rw [h5]; exact hnew _⟩, fun p hp => ?_⟩
      simp only [List.mem_singleton] at hp
      subst hp
      exact ⟨_, _, _, _, _, Grows.append _ _ _ _ hl, hnew _⟩
    · simp only [Prod.mk.injEq] at he
      obtain ⟨rfl, rfl, rfl⟩ := he
      exact ⟨L, h, Grows.refl _, hc.oneCell, fun p hp => by simp at hp⟩
  · simp only [Prod.mk.injEq] at he
    obtain ⟨rfl, rfl, rfl⟩ := he
    exact ⟨L, h, Grows.refl _, hc, fun p hp => by simp at hp⟩
theorem openCs_sound : ∀ {cs : List Cell} {vs : List Value} {st : St} {L : List Loc} {st' : St} {cs' : List Cell} {hs : List (Nat × Nat × Nat)}, Sit S st a w Z L → CsSim w Z L cs vs → openCs st cs = (st', cs', hs) →
    ∃ L', Sit S st' a w Z L' ∧ Grows L L' ∧ CsSim w Z L' cs' vs ∧ Opened L' hs
  | [], [], st, L, st', cs', hs, h, _, he => by
    simp only [openCs, Prod.mk.injEq] at he
    obtain ⟨rfl, rfl, rfl⟩ := he
    exact ⟨L, h, Grows.refl _, trivial, fun p hp => by simp at hp⟩
  | [], _ :: _, _, _, _, _, _, _, hc, _ => hc.elim
  | _ :: _, [], _, _, _, _, _, _, hc, _ => hc.elim
  | c :: cs, v :: vs, st, L, st', cs', hs, h, ⟨h1, h2⟩, he => by
    simp only [openCs] at he
    cases ho : openC st c with
    | mk st1 p =>
      obtain ⟨c1, g1⟩ := p
      rw [ho] at he
      simp only at he
      cases ho2 : openCs st1 cs with
      | mk st2 p2 =>
        obtain ⟨cs2, g2⟩ := p2
        rw [ho2] at he
        simp only [Prod.mk.injEq] at he
        obtain ⟨rfl, rfl, rfl⟩ := he
        obtain ⟨L1, a1, a2, a3, a4⟩ := openC_sound h h1 ho
        obtain ⟨L2, b1, b2, b3, b4⟩ := openCs_sound a1 (CsSim.mono (fun _ _ => rfl) (fun _ h => h) a2 h2) ho2
        exact ⟨L2, b1, a2.trans b2, ⟨CSim.mono (fun _ _ => rfl) (fun _ h => h) b2 a3, b3⟩, fun p hp => (List.mem_append.1 hp).elim (fun hp => (a4.mono b2) p hp) (b4 p)⟩
theorem openE_sound {e : Ent} {v : Value} {st' : St} {e' : Ent} {hs : List (Nat × Nat × Nat)} (h : Sit S st a w Z L) (hc : ESim w Z L e v) (he : openE st e = (st', e', hs)) :
    ∃ L', Sit S st' a w Z L' ∧ Grows L L' ∧ ESim w Z L' e' v ∧ Opened L' hs := by
  unfold openE at he
  split at he
  · rename_i c
    cases ho : openC st c with
    | mk st1 p =>
      obtain ⟨c1, g1⟩ := p
      rw [ho] at he
      simp only [Prod.mk.injEq] at he
      obtain ⟨rfl, rfl, rfl⟩ := he
      obtain ⟨L1, a1, a2, a3, a4⟩ := openC_sound h hc ho
      exact ⟨L1, a1, a2, a3, a4⟩
  · rename_i cs
    cases ho : openCs st cs with
    | mk st1 p =>
      obtain ⟨c1, g1⟩ := p
      rw [ho] at he
      simp only [Prod.mk.injEq] at he
      obtain ⟨rfl, rfl, rfl⟩ := he
      obtain ⟨vs, e1, e2⟩ := hc
      obtain ⟨L1, a1, a2, a3, a4⟩ := openCs_sound h e2 ho
      exact ⟨L1, a1, a2, ⟨vs, e1, a3⟩, a4⟩
  · simp only [Prod.mk.injEq] at he
    obtain ⟨rfl, rfl, rfl⟩ := he
    exact ⟨L, h, Grows.refl _, hc, fun p hp => by simp at hp⟩
theorem openEs_sound : ∀ {es : List Ent} {vs : List Value} {st : St} {L : List Loc} {st' : St} {es' : List Ent} {hs : List (Nat × Nat × Nat)}, Sit S st a w Z L → EsSim w Z L es vs → openEs st es = (st', es', hs) →
    ∃ L', Sit S st' a w Z L' ∧ Grows L L' ∧ EsSim w Z L' es' vs ∧ Opened L' hs
  | [], [], st, L, st', cs', hs, h, _, he => by
    simp only [openEs, Prod.mk.injEq] at he
    obtain ⟨rfl, rfl, rfl⟩ := he
    exact ⟨L, h, Grows.refl _, trivial, fun p hp => by simp at hp⟩
  | [], _ :: _, _, _, _, _, _, _, hc, _ => hc.elim
  | _ :: _, [], _, _, _, _, _, _, hc, _ => hc.elim
  | c :: cs, v :: vs, st, L, st', cs', hs, h, ⟨h1, h2⟩, he => by
    simp only [openEs] at he
    cases ho : openE st c with
    | mk st1 p =>
      obtain ⟨c1, g1⟩ := p
      rw [ho] at he
      simp only at he
      cases ho2 : openEs st1 cs with
      | mk st2 p2 =>
        obtain ⟨cs2, g2⟩ := p2
        rw [ho2] at he
        simp only [Prod.mk.injEq] at he
        obtain ⟨rfl, rfl, rfl⟩ := he
        obtain ⟨L1, a1, a2, a3, a4⟩ := openE_sound h h1 ho
        obtain ⟨L2, b1, b2, b3, b4⟩ := openEs_sound a1 (EsSim.mono (fun _ _ => rfl) (fun _ h => h) a2 h2) ho2
        exact ⟨L2, b1, a2.trans b2, ⟨ESim.mono (fun _ _ => rfl) (fun _ h => h) b2 a3, b3⟩, fun p hp => (List.mem_append.1 hp).elim (fun hp => (a4.mono b2) p hp) (b4 p)⟩

theorem callM_sound {g : Nat} {s : Sig} {as : List Ent} {M : List Nat} {ps : List (Nat × Nat × Nat)} {extra : Nat → Prop} {vs : Array Value} (hC : Told P C)
    (hs : Sit S st a w Z L) (hop : Opened L ps) (hg : Goes S K next) (h : callM C g s as M ps st o.dst K) (hn : M.Nodup) (hM : ∀ i ∈ M, i < st.objs.length)
    (hx1 : ∀ b, extra b → b < w.heap.size) (hx2 : ∀ b, extra b → ∀ i ∈ M, ∀ (o : Ob) (l : Loc), st.objs[i]? = some o → L[i]? = some l → ∀ q, ¬ foot o l b q)
    (hflat : (∀ b, ¬ extra b) ∨ (s.flat = true ∧ (s.after = none → (lent st M).all Ob.flat = true))) (has : EsSim w (fun b => Z b ∨ extra b) L as vs.toList)
    (hrun : (execOp a.eval o).run P w = (callFunc g vs).run P w) : o.wp P a w next Q := by
  unfold callM at h
  obtain ⟨r, h, hr⟩ := exE_some h
  obtain ⟨nw, h, hnw⟩ := exO_some h
  obtain ⟨os, h, hos, hos'⟩ := exA_some h
  obtain ⟨hc, h⟩ := h
  obtain ⟨hlen, hk⟩ := ifT_iff.1 h
  have hlen := Nat.eq_of_beq_eq_true hlen
  have hfl : (∀ b, ¬ extra b) ∨ (r.flat = true ∧ (os ++ nw).all Ob.flat = true) := by
    rcases hflat with hx | ⟨hx, hx'⟩
    · exact .inl hx
    · refine .inr ?_
      unfold Sig.flat at hx
      cases ha : s.after with
      | none =>
        simp only [ha, Bool.and_eq_true] at hx
        refine ⟨hr hx.1, ?_⟩
        rw [List.all_append, Bool.and_eq_true]
        exact ⟨by rw [hos' ha]; exact hx' ha, hnw hx.2.2⟩
      | some l =>
        simp only [ha, Bool.and_eq_true] at hx
        refine ⟨hr hx.1, ?_⟩
        rw [List.all_append, Bool.and_eq_true]
        exact ⟨hos l ha hx.2.1, hnw hx.2.2⟩
  have hren : ∀ c v, CSim w (fun b => Z b ∨ extra b) L c v → CSim w (fun b => Z b ∨ extra b) (locs L M) (renC (idx M) c) v :=
    renC_sim fun i j l hij hl => locs_get (idx_get hij) hl
  have hd := hC _ _ _ _ _ hc w (fun b => Z b ∨ extra b) (locs L M) vs (lent_sims hs hn hM hx1 hx2) (EsSim.map hren has)
  have fin : ∀ v w', (∃ Z' L', Sims w' Z' L' (os ++ nw) ∧ ESim w' Z' L' r v ∧ Grows (locs L M) L' ∧ Keeps w (feet (lent st M) (locs L M)) w' ∧ (∀ b, Z b ∨ extra b → Z' b) ∧
      (∀ b, Z' b → (Z b ∨ extra b) ∨ w.heap.size ≤ b ∨ ∀ q, feet (lent st M) (locs L M) b q) ∧
      (∀ (i : Nat) (o : Ob) (l : Loc), (os ++ nw)[i]? = some o → L'[i]? = some l → ∀ b q, foot o l b q → w.heap.size ≤ b ∨ feet (lent st M) (locs L M) b q)) → next (a.put o.dst v) w' := by
    rintro v w' ⟨Z', L', h1, h2, h3, h4, h5, h6, h7⟩
    obtain ⟨Z2, L2, s1, s2, s3⟩ := back_sit hs hn hM hlen hfl h1 h2 h3 h4 h5 h6 h7
    obtain ⟨st', s4, hk⟩ := closeW_sound s1 (hop.mono s3) hk
    exact hg _ _ _ _ _ (s4.put s2 o.dst) hk
  unfold Oper.wp
  rw [hrun]
  rcases hd with ⟨v, w', h1, h2⟩ | ⟨h1, h2⟩
  · rw [h1]
    exact fin v w' h2
  · rw [h1]
    refine Calls.mono h2 fun e w' he => ?_
    cases e with
    | returned v => exact fin v w' he
    | panicked _ => exact he.elim
    | outgrown => exact he.elim
end
end Go.Ry
