/- The evaluator is right: what arrives at a cut. No condition. -/
import Derived.Test.YtlphiljackccnaaRy29
set_option linter.unusedVariables false
set_option linter.unusedSimpArgs false
namespace Go.Ry

section
variable {S : Start} {st : St} {a : Act} {w w' : World} {Z Z' : Nat → Prop} {L L' : List Loc}

theorem eqNats_eq : ∀ {l m : List Nat}, eqNats l m = true → l = m
  | [], [], _ => rfl
  | [], _ :: _, h => by simp [eqNats] at h
  | _ :: _, [], h => by simp [eqNats] at h
  | a :: l, b :: m, h => by
    simp only [eqNats, Bool.and_eq_true] at h
    rw [Nat.eq_of_beq_eq_true h.1, eqNats_eq h.2]

theorem eqFix_sim {c d : Cell} {v : Value} (h : eqFix c d = true) (hd : CSim w Z L d v) : CSim w Z L c v := by
  unfold eqFix at h
  split at h
  · exact hd.oneCell
  · rw [Nat.eq_of_beq_eq_true h]; exact hd
  · simp only [Bool.and_eq_true] at h
    rw [Nat.eq_of_beq_eq_true h.1, Nat.eq_of_beq_eq_true h.2]; exact hd
  · simp only [Bool.and_eq_true] at h
    rw [Nat.eq_of_beq_eq_true h.1, eqNats_eq h.2]; exact hd
  · exact hd
  · exact hd
  · exact hd
  · simp at h

theorem fitC_sim {s : Sh} {c d : Cell} {v : Value} (h : fitC s c = some d) (hc : CSim w Z L c v) : CSim w Z L d v := by
  unfold fitC at h
  split at h
  · split at h
    · simp only [Option.some.injEq] at h; subst h; exact hc
    · simp at h
  · simp only [Option.some.injEq] at h; subst h; exact hc
  · simp only [Option.some.injEq] at h; subst h; exact hc
  · simp only [cond_eq_ite] at h
    split at h
    · simp only [Option.some.injEq] at h; subst h; exact hc
    · simp at h
  · simp only [Option.some.injEq] at h
    subst h
    have hv : v = .slice none 0 0 := hc
    subst hv
    exact ⟨none, 0, 0, rfl, rfl, Nat.le_refl _, fun _ => rfl, fun ad had => by simp at had⟩
  · simp only [Option.some.injEq] at h; subst h; exact hc
  · simp only [cond_eq_ite] at h
    split at h
    · simp only [Option.some.injEq] at h; subst h; exact hc
    · simp at h
  · simp only [cond_eq_ite] at h
    split at h
    · rename_i he
      simp only [Option.some.injEq] at h
      subst h
      exact eqFix_sim he hc
    · simp at h
  · simp at h

theorem fitCs_sim : ∀ {l : List Sh} {cs ds : List Cell} {vs : List Value}, fitCs l cs = some ds → CsSim w Z L cs vs → CsSim w Z L ds vs ∧ ds.length = cs.length
  | [], [], ds, vs, h, hc => by
    simp only [fitCs, Option.some.injEq] at h
    subst h
    exact ⟨hc, rfl⟩
  | [], _ :: _, _, _, h, _ => by simp [fitCs] at h
  | _ :: _, [], _, _, h, _ => by simp [fitCs] at h
  | s :: l, c :: cs, ds, [], h, hc => hc.elim
  | s :: l, c :: cs, ds, v :: vs, h, ⟨h1, h2⟩ => by
    simp only [fitCs] at h
    split at h
    · rename_i d ds' e1 e2
      simp only [Option.some.injEq] at h
      subst h
      obtain ⟨k1, k2⟩ := fitCs_sim e2 h2
      exact ⟨⟨fitC_sim e1 h1, k1⟩, by simp [k2]⟩
    · simp at h

theorem fitE_sim {s : ESh} {e f : Ent} {v : Value} (h : fitE s e = some f) (he : ESim w Z L e v) : ESim w Z L f v := by
  unfold fitE at h
  split at h
  · split at h
    · rename_i hc
      simp only [Option.some.injEq] at h
      subst h
      exact fitC_sim hc he
    · simp at h
  · split at h
    · rename_i hc
      simp only [Option.some.injEq] at h
      subst h
      obtain ⟨vs, e1, e2⟩ := he
      exact ⟨vs, e1, (fitCs_sim hc e2).1⟩
    · simp at h
  · simp at h

theorem fitO_sim {s : OSh} {o p : Ob} {l : Loc} (h : fitO s o = some p) (ho : OSim w Z L o l) : OSim w Z L p l ∧ ∀ b q, foot p l b q → foot o l b q := by
  unfold fitO at h
  split at h
  · simp only [Option.some.injEq] at h
    subst h
    exact ⟨trivial, fun b q hq => hq.elim⟩
  · split at h
    · rename_i hc
      simp only [Option.some.injEq] at h
      subst h
      obtain ⟨g, q, vs, rfl, h1, h2⟩ := ho
      obtain ⟨k1, k2⟩ := fitCs_sim hc h1
      exact ⟨⟨g, q, vs, rfl, k1, h2⟩, fun b o hq => by
        simp only [foot, k2] at hq ⊢
        exact hq⟩
    · simp at h
  · simp only [cond_eq_ite] at h
    split at h
    · simp only [Option.some.injEq] at h
      subst h
      exact ⟨ho, fun b q hq => hq⟩
    · simp at h
  · simp at h

theorem fitOs_get : ∀ {l : List OSh} {os ps : List Ob}, fitOs l os = some ps → ps.length = os.length ∧ ∀ (i : Nat) (p : Ob), ps[i]? = some p → ∃ s o, os[i]? = some o ∧ fitO s o = some p
  | [], [], ps, h => by
    simp only [fitOs, Option.some.injEq] at h
    subst h
    exact ⟨rfl, fun i p hp => by simp at hp⟩
  | [], _ :: _, _, h => by simp [fitOs] at h
  | _ :: _, [], _, h => by simp [fitOs] at h
  | s :: l, o :: os, ps, h => by
    simp only [fitOs] at h
    split at h
    · rename_i p ps' e1 e2
      simp only [Option.some.injEq] at h
      subst h
      obtain ⟨k1, k2⟩ := fitOs_get e2
      refine ⟨by simp [k1], fun i q hq => ?_⟩
      cases i with
      | zero =>
        simp only [List.getElem?_cons_zero, Option.some.injEq] at hq
        subst hq
        exact ⟨s, o, rfl, e1⟩
      | succ i => simpa using k2 i q (by simpa using hq)
    · simp at h

theorem undefs_get : ∀ {n i : Nat} {e : Ent}, (undefs n)[i]? = some e → e = .undef
  | 0, _, _, h => by simp [undefs] at h
  | n + 1, 0, e, h => by simpa [undefs] using h.symm
  | n + 1, i + 1, e, h => undefs_get (n := n) (i := i) (by simpa [undefs] using h)
theorem undefs_length : ∀ n, (undefs n).length = n
  | 0 => rfl
  | n + 1 => by simp [undefs, undefs_length n]
theorem setSlots_length : ∀ (ts : List Ent) (l : List (Nat × ESh)) (es : List Ent), (setSlots ts l es).length = ts.length
  | ts, [], es => by cases es <;> rfl
  | ts, _ :: _, [] => rfl
  | ts, s :: l, e :: es => by simp only [setSlots]; rw [setSlots_length, setNth_length]

theorem setSlots_sim (hs : Sit S st a w Z L) : ∀ {l : List (Nat × ESh)} {es ts : List Ent}, fitEs st l = some es →
    (∀ (d : Nat) (e : Ent), ts[d]? = some e → ESim w Z L e (a.tmps.getD d undef)) → ∀ (d : Nat) (e : Ent), (setSlots ts l es)[d]? = some e → ESim w Z L e (a.tmps.getD d undef)
  | [], es, ts, _, ht, d, e, hd => ht d e (by cases es <;> exact hd)
  | s :: l, es, ts, h, ht, d, e, hd => by
    simp only [fitEs] at h
    split at h
    · rename_i f fs e1 e2
      simp only [Option.some.injEq] at h
      subst h
      simp only [setSlots] at hd
      refine setSlots_sim hs e2 (fun d' e' hd' => ?_) d e hd
      rw [setNth_eq] at hd'
      by_cases hdd : d' = s.1
      · subst hdd
        have hlt : s.1 < ts.length := by
          have := (List.getElem?_eq_some_iff.1 hd').1
          simpa using this
        rw [List.getElem?_set_self hlt] at hd'
        simp only [Option.some.injEq] at hd'
        subst hd'
        exact fitE_sim e1 (hs.tmp _)
      · rw [List.getElem?_set_ne (by omega)] at hd'
        exact ht d' e' hd'
    · simp at h

theorem Sit.fit (hs : Sit S st a w Z L) {k : Cut} {es : List Ent} {os : List Ob} {n : Nat} (h1 : fitEs st k.slots = some es) (h2 : fitOs k.objs st.objs = some os) (hn : n = a.tmps.size) :
    Sit S (mkSt n k es os) a w Z L := by
  obtain ⟨g1, g2⟩ := fitOs_get h2
  refine ⟨by simp [mkSt, setSlots_length, undefs_length, hn], setSlots_sim hs h1 (fun d e hd => by rw [undefs_get hd]; trivial),
    ⟨by simp [mkSt, hs.sims.len, g1], fun i o l ho hl => ?_, fun i j o l o' l' ho hl ho' hl' hij b q q1 q2 => ?_, fun i o l ho hl b q hq hz => ?_, hs.sims.zin⟩,
    hs.keeps, hs.zup, hs.znew, fun i o l ho hl b q hq => ?_, hs.lents, hs.defers⟩
  · obtain ⟨s, o1, k1, k2⟩ := g2 i o ho
    exact (fitO_sim k2 (hs.sims.ob i o1 l k1 hl)).1
  · obtain ⟨s, o1, k1, k2⟩ := g2 i o ho
    obtain ⟨s', o1', k1', k2'⟩ := g2 j o' ho'
    exact hs.sims.sep i j o1 l o1' l' k1 hl k1' hl' hij b q ((fitO_sim k2 (hs.sims.ob i o1 l k1 hl)).2 b q q1) ((fitO_sim k2' (hs.sims.ob j o1' l' k1' hl')).2 b q q2)
  · obtain ⟨s, o1, k1, k2⟩ := g2 i o ho
    exact hs.sims.zap i o1 l k1 hl b q ((fitO_sim k2 (hs.sims.ob i o1 l k1 hl)).2 b q hq) hz
  · obtain ⟨s, o1, k1, k2⟩ := g2 i o ho
    exact hs.fnew i o1 l k1 hl b q ((fitO_sim k2 (hs.sims.ob i o1 l k1 hl)).2 b q hq)

/-! ### what holds of all that fits holds of what fits -/
theorem allC_use : ∀ {l : List Sh} {cs ds : List Cell} {K : List Cell → Prop}, fitCs l cs = some ds → allC l K → K ds
  | [], [], ds, K, h, hk => by
    simp only [fitCs, Option.some.injEq] at h
    subst h
    exact hk
  | [], _ :: _, _, _, h, _ => by simp [fitCs] at h
  | _ :: _, [], _, _, h, _ => by simp [fitCs] at h
  | s :: l, c :: cs, ds, K, h, hk => by
    simp only [fitCs] at h
    split at h
    · rename_i d ds' e1 e2
      simp only [Option.some.injEq] at h
      subst h
      have use : ∀ d : Cell, allC l (fun cs => K (d :: cs)) → K (d :: ds') := fun d hh => allC_use (K := fun cs => K (d :: cs)) e2 hh
      unfold fitC at e1
      split at e1
      · split at e1
        · rename_i heq
          simp only [Option.some.injEq] at e1
          subst e1 heq
          exact use _ (hk _)
        · simp at e1
      · simp only [Option.some.injEq] at e1; subst e1; exact use _ (hk _)
      · simp only [Option.some.injEq] at e1; subst e1; exact use _ (hk _)
      · simp only [cond_eq_ite] at e1
        split at e1
        · rename_i heq
          have := Ty.eqb_eq heq
          subst this
          simp only [Option.some.injEq] at e1
          subst e1
          exact use _ (hk _)
        · simp at e1
      · simp only [Option.some.injEq] at e1; subst e1; exact use _ (hk _)
      · simp only [Option.some.injEq] at e1; subst e1; exact use _ (hk _)
      · simp only [cond_eq_ite] at e1
        split at e1
        · rename_i heq
          have := Nat.eq_of_beq_eq_true heq
          subst this
          simp only [Option.some.injEq] at e1
          subst e1
          exact use _ (hk _ _)
        · simp at e1
      · simp only [cond_eq_ite] at e1
        split at e1
        · simp only [Option.some.injEq] at e1
          subst e1
          exact use _ hk
        · simp at e1
      · simp at e1
    · simp at h

theorem allE_use : ∀ {l : List (Nat × ESh)} {es : List Ent} {K : List Ent → Prop}, fitEs st l = some es → allE l K → K es
  | [], es, K, h, hk => by
    simp only [fitEs, Option.some.injEq] at h
    subst h
    exact hk
  | s :: l, es, K, h, hk => by
    simp only [fitEs] at h
    split at h
    · rename_i e es' e1 e2
      simp only [Option.some.injEq] at h
      subst h
      obtain ⟨d, sh⟩ := s
      cases sh with
      | one s =>
        simp only [allE] at hk
        unfold fitE at e1
        split at e1
        · rename_i s' c hs' hc
          simp only [ESh.one.injEq] at hs'
          subst hs'
          split at e1
          · rename_i c' hc'
            simp only [Option.some.injEq] at e1
            subst e1
            have hf : fitCs [s] [c] = some [c'] := by simp [fitCs, hc']
            have h1 := allC_use (K := fun cs => match cs with
              | [c] => allE l fun es => K (.one c :: es)
              | _ => True) hf hk
            exact allE_use (K := fun es => K (.one c' :: es)) e2 h1
          · simp at e1
        · rename_i hs' _; simp at hs'
        · simp at e1
      | agg ss =>
        simp only [allE] at hk
        unfold fitE at e1
        split at e1
        · rename_i hs' _; simp at hs'
        · rename_i ss' cs hs' hc
          simp only [ESh.agg.injEq] at hs'
          subst hs'
          split at e1
          · rename_i cs' hc'
            simp only [Option.some.injEq] at e1
            subst e1
            have h1 := allC_use (K := fun cs => allE l fun es => K (.agg cs :: es)) hc' hk
            exact allE_use (K := fun es => K (.agg cs' :: es)) e2 h1
          · simp at e1
        · simp at e1
    · simp at h

theorem allO_use : ∀ {l : List OSh} {os ps : List Ob} {K : List Ob → Prop}, fitOs l os = some ps → allO l K → K ps
  | [], [], ps, K, h, hk => by
    simp only [fitOs, Option.some.injEq] at h
    subst h
    exact hk
  | [], _ :: _, _, _, h, _ => by simp [fitOs] at h
  | _ :: _, [], _, _, h, _ => by simp [fitOs] at h
  | s :: l, o :: os, ps, K, h, hk => by
    simp only [fitOs] at h
    split at h
    · rename_i p ps' e1 e2
      simp only [Option.some.injEq] at h
      subst h
      unfold fitO at e1
      split at e1
      · simp only [Option.some.injEq] at e1; subst e1; exact allO_use (K := fun os => K (.dead :: os)) e2 hk
      · split at e1
        · rename_i hc
          simp only [Option.some.injEq] at e1
          subst e1
          rename_i cs' _
          have h1 := allC_use (K := fun cs => allO l fun os => K (.box cs :: os)) hc hk
          exact allO_use (K := fun os => K (.box _ :: os)) e2 h1
        · simp at e1
      · simp only [cond_eq_ite] at e1
        split at e1
        · rename_i heq
          simp only [Bool.and_eq_true] at heq
          have h1 := Nat.eq_of_beq_eq_true heq.1
          have h2 := Ty.eqb_eq heq.2
          subst h1 h2
          simp only [Option.some.injEq] at e1
          subst e1
          exact allO_use (K := fun os => K (.row _ _ _ :: os)) e2 (hk _)
        · simp at e1
      · simp at e1
    · simp at h

/-- What arrives at a cut can go on from there. -/
theorem arrive_sound {k : Cut} {nl n : Nat} {J : List Ent → List Ob → Prop} (hs : Sit S st a w Z L) (hnl : S.L.length = nl) (h : arrive n nl k st J) :
    ∃ es os, J es os ∧ (∃ Z' L', Sit S (mkSt n k es os) a w Z' L') ∧ ∀ R : List Ent → List Ob → Prop, (allE k.slots fun es => allO k.objs fun os => R es os) → R es os := by
  unfold arrive at h
  dsimp only at h
  obtain ⟨Z1, L1, h1⟩ := hs.obeys (cmdS st k.objs k.slots ++ cmdB st k.objs k.objs (bindAll st nl k))
  split at h
  · rename_i M hM
    split at h
    · rename_i hc
      simp only [Bool.and_eq_true] at hc
      obtain ⟨c1, c2, c3, c4⟩ := hc
      split at h
      · rename_i es os e1 e2
        have h2 := h1.pick (nodupN_nodup c1) (allLt_lt c2) c3 hnl
        exact ⟨es, os, h, ⟨Z1, _, h2.fit e1 e2 (by rw [← Nat.eq_of_beq_eq_true c4, hs.tlen])⟩, fun R hR => allO_use (K := fun os => R es os) e2 (allE_use (K := fun es => allO k.objs fun os => R es os) e1 hR)⟩
      · exact h.elim
    · exact h.elim
  · exact h.elim
end
end Go.Ry
