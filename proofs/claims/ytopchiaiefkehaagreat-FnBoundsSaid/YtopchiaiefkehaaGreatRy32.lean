/- The evaluator, texts 29 to 32: The evaluator is right: getting ready for a cut (2). The evaluator is right: what arrives at a cut. The evaluator is right: regions. The evaluator is right: regions that draw their order (1). No condition. -/
import Derived.Test.YtopchiaiefkehaaGreatRy28
set_option linter.unusedVariables false
set_option linter.unusedSimpArgs false
namespace Go.Ry

section
variable {S : Start} {st : St} {a : Act} {w w' : World} {Z Z' : Nat → Prop} {L L' : List Loc}

theorem St.tmp_get {d : Nat} (h : st.tmp d ≠ .undef) : st.tmps[d]? = some (st.tmp d) := by
  unfold St.tmp at h ⊢
  rw [nth_eq] at h ⊢
  cases hd : st.tmps[d]? with
  | none => rw [hd] at h; exact absurd rfl h
  | some e => rfl

theorem CsSim.setAt {cs : List Cell} {vs : List Value} {j : Nat} {c : Cell} (h : CsSim w Z L cs vs) (hc : ∀ v, CSim w Z L ((Ry.nth cs j).getD .undef) v → CSim w Z L c v) : CsSim w Z L (Ry.setNth cs j c) vs := by
  refine h.setNth fun v hv => hc v ?_
  have hj : j < cs.length := by
    have := (List.getElem?_eq_some_iff.1 hv).1
    rw [h.length] at this
    exact this
  obtain ⟨u, h1, h2⟩ := h.get (List.getElem?_eq_getElem hj)
  rw [hv] at h1
  simp only [Option.some.injEq] at h1
  subst h1
  rw [nth_eq, List.getElem?_eq_getElem hj]
  exact h2

theorem setNth_length {α : Type} (l : List α) (n : Nat) (b : α) : (setNth l n b).length = l.length := by
  rw [setNth_eq, List.length_set]

theorem Sit.setAt (h : Sit S st a w Z L) {p : Pos} {c : Cell} (hc : ∀ v, CSim w Z L (st.at p) v → CSim w Z L c v) : Sit S (st.setAt p c) a w Z L := by
  cases p with
  | slot d j =>
    simp only [St.setAt]
    refine ⟨by simp [setNth_eq, h.tlen], fun d' e he => ?_, h.sims, h.keeps, h.zup, h.znew, h.fnew, h.lents, h.defers⟩
    simp only [setNth_eq] at he
    by_cases hdd : d' = d
    · subst hdd
      have hlt : d' < st.tmps.length := by
        have := (List.getElem?_eq_some_iff.1 he).1
        simpa using this
      rw [List.getElem?_set_self hlt] at he
      simp only [Option.some.injEq] at he
      subst he
      have h0 := h.tmp d'
      simp only [St.at] at hc
      cases hx : st.tmp d' with
      | undef => trivial
      | tup l => rw [hx] at h0; exact h0
      | one x =>
        rw [hx] at h0 hc
        cases j with
        | zero => exact hc _ h0
        | succ j => exact h0
      | agg cs =>
        rw [hx] at h0 hc
        obtain ⟨vs, e1, e2⟩ := h0
        exact ⟨vs, e1, e2.setAt hc⟩
    · rw [List.getElem?_set_ne (by omega)] at he
      exact h.tmps d' e he
  | box i j =>
    simp only [St.setAt]
    simp only [St.at] at hc
    split
    · rename_i cs hb
      rw [hb] at hc
      have hbx : st.box i = some cs := by simp [St.box, hb]
      obtain ⟨g, q, s, vs, h1, h2, h3, h4⟩ := h.boxAt hbx
      exact h.set h1 h2 (Keeps.refl _ _) ⟨g, q, s, vs, rfl, h3.setAt hc, h4⟩ fun b o hq => by
        simp only [foot, setNth_length] at hq ⊢
        exact hq
    · exact h

theorem Sit.at (h : Sit S st a w Z L) {p : Pos} (hp : st.at p ≠ .undef) : ∃ v, CSim w Z L (st.at p) v := by
  have key : ∀ {cs : List Cell} {vs : List Value} {j : Nat}, CsSim w Z L cs vs → (nth cs j).getD .undef ≠ .undef → ∃ v, CSim w Z L ((nth cs j).getD .undef) v := by
    intro cs vs j hcs hne
    rw [nth_eq] at hne ⊢
    cases hj : cs[j]? with
    | none => rw [hj] at hne; exact absurd rfl hne
    | some c =>
      obtain ⟨v, _, h2⟩ := hcs.get hj
      exact ⟨v, h2⟩
  cases p with
  | slot d j =>
    simp only [St.at] at hp ⊢
    have h0 := h.tmp d
    cases hx : st.tmp d with
    | undef => rw [hx] at hp; simp [Ent.cells, nth] at hp
    | tup l => rw [hx] at hp; simp [Ent.cells, nth] at hp
    | one x =>
      rw [hx] at hp h0
      exact key (cs := [x]) (vs := [_]) ⟨h0, trivial⟩ hp
    | agg cs =>
      rw [hx] at hp h0
      obtain ⟨vs, _, e2⟩ := h0
      exact key e2 hp
  | box i j =>
    simp only [St.at] at hp ⊢
    split at hp
    · rename_i cs hb
      obtain ⟨g, q, s, vs, h1, h2, h3, h4⟩ := h.boxAt (show st.box i = some cs by simp [St.box, hb])
      exact key h3 hp
    · exact absurd rfl hp

theorem St.ob_addOb {o : Ob} {i : Nat} (h : i < st.objs.length) : (st.addOb o).ob i = st.ob i := by
  simp only [St.ob, St.addOb, nth_eq]
  rw [List.getElem?_append_left h]
theorem St.ob_lt {i : Nat} (h : st.ob i ≠ .dead) : i < st.objs.length := (List.getElem?_eq_some_iff.1 (St.ob_some h)).1

theorem St.at_addOb {o : Ob} {p : Pos} (h : st.at p ≠ .undef) : (st.addOb o).at p = st.at p := by
  cases p with
  | slot d j => rfl
  | box i j =>
    simp only [St.at] at h ⊢
    rw [St.ob_addOb]
    refine St.ob_lt fun hd => ?_
    rw [hd] at h
    exact h rfl

theorem St.at_kill {i : Nat} {p : Pos} {e : Nat} {t : Ty} {xs : List t.den} (hi : st.ob i = .row e t xs) : (st.setOb i .dead).at p = st.at p := by
  cases p with
  | slot d j => rfl
  | box k j =>
    simp only [St.at, St.ob, St.setOb, nth_eq, setNth_eq]
    by_cases hk : i = k
    · subst hk
      have hi' : st.objs[i]?.getD .dead = .row e t xs := by rw [← nth_eq]; exact hi
      have hlt := St.ob_lt (i := i) (by rw [hi]; simp)
      rw [List.getElem?_set_self hlt, hi']
      rfl
    · rw [List.getElem?_set_ne hk]

theorem isWin_one {v u u' : Value} {sz hi : Nat} (h : isWin v sz 0 hi u) (h' : isWin v sz 0 hi u') : u' = u := by
  rcases h with ⟨h1, h2, _, h4⟩ | ⟨g, n, c, h1, h2, h3, h4, h5⟩
  · rcases h' with ⟨_, k2, _⟩ | ⟨g, n, c, k1, _⟩
    · rw [h2, k2]
    · rw [h1] at k1; simp at k1
  · rcases h' with ⟨k1, _⟩ | ⟨g', n', c', k1, k2, k3, k4, k5⟩
    · rw [h1] at k1; simp at k1
    · rw [h1] at k1
      simp only [Value.slice.injEq, Option.some.injEq, Addr.mk.injEq] at k1
      obtain ⟨⟨rfl, _⟩, rfl, rfl⟩ := k1
      rw [h5, k5]

theorem Sit.obey (h : Sit S st a w Z L) (c : Cmd) : ∃ Z' L', Sit S (st.obey c) a w Z' L' := by
  cases c with
  | share i =>
    obtain ⟨Z', _, h', _⟩ := h.share i
    exact ⟨Z', L, h'⟩
  | nilrow p e t =>
    simp only [St.obey]
    split
    · rename_i hp hb
      have hpos : 0 < t.size := Nat.le_of_ble_eq_true hb
      have h' := h.add (o := .row e t []) (l := .row (.slice none 0 0) t.size (LN.of 0)) (Keeps.refl w _)
        ⟨.slice none 0 0, [], rfl, hpos, ⟨by simp, .inl ⟨rfl, rfl⟩⟩, fun i x hi => by simp at hi⟩ (fun b q hq => by simp [foot, Value.ownBlock] at hq)
      refine ⟨Z, _, h'.setAt fun v hv => ?_⟩
      rw [St.at_addOb (by rw [hp]; simp), hp] at hv
      have hv' : v = .slice none 0 0 := hv
      exact ⟨⟨_, _, _, hv'⟩, t.size, _, by rw [hv']; exact h.newAt _⟩
    · exact ⟨Z, L, h⟩
  | nilnest p e t q =>
    simp only [St.obey]
    split
    · rename_i hp hb
      simp only [Bool.and_eq_true] at hb
      have hpos : 0 < t.size := Nat.le_of_ble_eq_true hb.1
      have h' := h.add (o := .nest e t q [] none) (l := .row (.slice none 0 0) t.size ⟨0, fun _ => nilS⟩) (Keeps.refl w _)
        ⟨.slice none 0 0, [], fun _ => nilS, rfl, hpos, hb.2, ⟨by simp, .inl ⟨rfl, rfl⟩⟩, ⟨fun k x hx => by simp at hx, fun k hk => by simp at hk, fun k x hx => by simp at hx, fun k b hb => by simp [nilS, Value.ownBlock] at hb, fun _ _ => rfl⟩⟩
        (fun b q hq => by
          rcases hq with hq | ⟨k, _, hq⟩
          · simp [Value.ownBlock] at hq
          · simp [nilS, Value.ownBlock] at hq)
      refine ⟨Z, _, h'.setAt fun v hv => ?_⟩
      rw [St.at_addOb (by rw [hp]; simp), hp] at hv
      have hv' : v = .slice none 0 0 := hv
      exact ⟨⟨_, _, _, hv'⟩, t.size, _, by rw [hv']; exact h.newAt _⟩
    · exact ⟨Z, L, h⟩
  | trim p =>
    simp only [St.obey]
    split
    · rename_i i hi hp
      split
      · rename_i e t xs hob
        obtain ⟨v, es, h1, hl, h2, h3, h4⟩ := h.row hob
        obtain ⟨u, hu⟩ := h.at (p := p) (by rw [hp]; simp)
        rw [hp] at hu
        obtain ⟨v', sz, n, hl', hw⟩ := hu
        rw [hl] at hl'
        simp only [Option.some.injEq, Loc.row.injEq] at hl'
        obtain ⟨rfl, rfl, rfl⟩ := hl'
        obtain ⟨o1, o2, o3⟩ := ownsRow_take h3 hw
        have hlen : (xs.take hi).length = hi := by rw [List.length_take]; omega
        have h' := h.turn (o' := .row e t (xs.take hi)) (l' := .row u t.size hi) h1 hl (Keeps.refl _ _)
          ⟨u, es.take (hi * t.size), by rw [hlen], h2, by rw [hlen]; exact o1, h4.take h3.1 o3⟩ (fun b q hq => .inr (by
            simp only [foot] at hq ⊢
            rw [← o2]; exact hq))
        refine ⟨Z, _, h'.setAt fun v2 hv => ?_⟩
        have hat := St.at_kill (p := p) hob
        rw [St.at_addOb (by rw [hat, hp]; simp), hat, hp] at hv
        obtain ⟨u2, sz2, n2, k1, k2⟩ := hv
        rw [Grows.append _ _ _ _ hl] at k1
        simp only [Option.some.injEq, Loc.row.injEq] at k1
        obtain ⟨rfl, rfl, rfl⟩ := k1
        have := isWin_one hw k2
        subst this
        exact ⟨ownsRow_slice o1, t.size, hi, h.newAt _⟩
      · exact ⟨Z, L, h⟩
    · exact ⟨Z, L, h⟩
  | towin p =>
    simp only [St.obey]
    split
    · rename_i i hp
      split
      · rename_i e t xs hob
        obtain ⟨v, es, h1, hl, h2, h3, h4⟩ := h.row hob
        refine ⟨Z, L, h.setAt fun v2 hv => ?_⟩
        rw [hp] at hv
        obtain ⟨_, sz, n, k1⟩ := hv
        rw [hl] at k1
        simp only [Option.some.injEq, Loc.row.injEq] at k1
        obtain ⟨rfl, rfl, rfl⟩ := k1
        exact ⟨v, t.size, xs.length, hl, isWin_all h3⟩
      · exact ⟨Z, L, h⟩
    · exact ⟨Z, L, h⟩

theorem Sit.obeys : ∀ (cs : List Cmd) {st : St} {Z : Nat → Prop} {L : List Loc}, Sit S st a w Z L → ∃ Z' L', Sit S (st.obeys cs) a w Z' L'
  | [], _, Z, L, h => ⟨Z, L, h⟩
  | c :: cs, _, _, _, h => by
    obtain ⟨Z1, L1, h1⟩ := h.obey c
    exact Sit.obeys cs h1
end
end Go.Ry
set_option linter.unusedVariables false
set_option linter.unusedSimpArgs false
namespace Go.Ry

section
variable {S : Start} {st : St} {a : Act} {w w' : World} {Z Z' : Nat → Prop} {L L' : List Loc}

theorem eqNats_eq : ∀ {l m : List Nat}, eqNats l m = true → l = m
  | [], [], _ => rfl
  | [], _ :: _, h => by simp [eqNats] at h
  | _ :: _, [], h => by simp [eqNats] at h
  | a :: l, b :: m, h => by
    simp only [eqNats, Bool.and_eq_true] at h
    rw [Nat.eq_of_beq_eq_true h.1, eqNats_eq h.2]

theorem eqFix_sim {c d : Cell} {v : Value} (h : eqFix c d = true) (hd : CSim w Z L d v) : CSim w Z L c v := by
  unfold eqFix at h
  split at h
  · exact hd.oneCell
  · rw [Nat.eq_of_beq_eq_true h]; exact hd
  · rw [Nat.eq_of_beq_eq_true h]; exact hd
  · simp only [Bool.and_eq_true] at h
    rw [Nat.eq_of_beq_eq_true h.1, Nat.eq_of_beq_eq_true h.2]; exact hd
  · simp only [Bool.and_eq_true] at h
    rw [Nat.eq_of_beq_eq_true h.1, eqNats_eq h.2]; exact hd
  · simp only [Bool.and_eq_true] at h
    rw [Nat.eq_of_beq_eq_true h.1, Nat.eq_of_beq_eq_true h.2.1, Nat.eq_of_beq_eq_true h.2.2]; exact hd
  · exact hd
  · exact hd
  · exact hd
  · simp at h

theorem fitC_sim {s : Sh} {c d : Cell} {v : Value} (h : fitC s c = some d) (hc : CSim w Z L c v) : CSim w Z L d v := by
  unfold fitC at h
  split at h
  · split at h
    · simp only [Option.some.injEq] at h; subst h; exact hc
    · simp at h
  · simp only [Option.some.injEq] at h; subst h; exact hc
  · simp only [Option.some.injEq] at h; subst h; exact hc
  · simp only [cond_eq_ite] at h
    split at h
    · simp only [Option.some.injEq] at h; subst h; exact hc
    · simp at h
  · simp only [Option.some.injEq] at h
    subst h
    have hv : v = .slice none 0 0 := hc
    subst hv
    exact ⟨none, 0, 0, rfl, rfl, Nat.le_refl _, fun _ => rfl, fun ad had => by simp at had⟩
  · simp only [Option.some.injEq] at h; subst h; exact hc
  · simp only [cond_eq_ite] at h
    split at h
    · simp only [Option.some.injEq] at h; subst h; exact hc
    · simp at h
  · simp only [cond_eq_ite] at h
    split at h
    · rename_i he
      simp only [Option.some.injEq] at h
      subst h
      exact eqFix_sim he hc
    · simp at h
  · simp only [Option.some.injEq] at h; subst h; exact hc
  · simp only [cond_eq_ite] at h
    split at h
    · rename_i he
      simp only [Bool.and_eq_true] at he
      simp only [Option.some.injEq] at h
      subst h
      rw [Nat.eq_of_beq_eq_true he.1, Nat.eq_of_beq_eq_true he.2]; exact hc
    · simp at h
  · simp only [cond_eq_ite] at h
    split at h
    · simp only [Option.some.injEq] at h; subst h; exact hc
    · simp at h
  · simp at h

theorem fitCs_sim : ∀ {l : List Sh} {cs ds : List Cell} {vs : List Value}, fitCs l cs = some ds → CsSim w Z L cs vs → CsSim w Z L ds vs ∧ ds.length = cs.length
  | [], [], ds, vs, h, hc => by
    simp only [fitCs, Option.some.injEq] at h
    subst h
    exact ⟨hc, rfl⟩
  | [], _ :: _, _, _, h, _ => by simp [fitCs] at h
  | _ :: _, [], _, _, h, _ => by simp [fitCs] at h
  | s :: l, c :: cs, ds, [], h, hc => hc.elim
  | s :: l, c :: cs, ds, v :: vs, h, ⟨h1, h2⟩ => by
    simp only [fitCs] at h
    split at h
    · rename_i d ds' e1 e2
      simp only [Option.some.injEq] at h
      subst h
      obtain ⟨k1, k2⟩ := fitCs_sim e2 h2
      exact ⟨⟨fitC_sim e1 h1, k1⟩, by simp [k2]⟩
    · simp at h

theorem fitE_sim {s : ESh} {e f : Ent} {v : Value} (h : fitE s e = some f) (he : ESim w Z L e v) : ESim w Z L f v := by
  unfold fitE at h
  split at h
  · split at h
    · rename_i hc
      simp only [Option.some.injEq] at h
      subst h
      exact fitC_sim hc he
    · simp at h
  · split at h
    · rename_i hc
      simp only [Option.some.injEq] at h
      subst h
      obtain ⟨vs, e1, e2⟩ := he
      exact ⟨vs, e1, (fitCs_sim hc e2).1⟩
    · simp at h
  · simp at h

theorem Inn.eq_of : ∀ {p q : Inn}, (Nat.beq p.o q.o && (Nat.beq p.e q.e && Ty.eqb p.s q.s)) = true → p = q
  | ⟨o, e, s⟩, ⟨o', e', s'⟩, h => by
    simp only [Bool.and_eq_true] at h
    have h1 : o = o' := Nat.eq_of_beq_eq_true h.1
    have h2 : e = e' := Nat.eq_of_beq_eq_true h.2.1
    have h3 : s = s' := Ty.eqb_eq h.2.2
    rw [h1, h2, h3]

theorem fitO_sim {s : OSh} {o p : Ob} {l : Loc} (h : fitO s o = some p) (ho : OSim w Z L o l) : OSim w Z L p l ∧ ∀ b q, foot p l b q → foot o l b q := by
  unfold fitO at h
  split at h
  · simp only [Option.some.injEq] at h
    subst h
    exact ⟨trivial, fun b q hq => hq.elim⟩
  · split at h
    · rename_i hc
      simp only [Option.some.injEq] at h
      subst h
      obtain ⟨g, q, s, vs, rfl, h1, h2⟩ := ho
      obtain ⟨k1, k2⟩ := fitCs_sim hc h1
      exact ⟨⟨g, q, s, vs, rfl, k1, h2⟩, fun b o hq => by
        simp only [foot, k2] at hq ⊢
        exact hq⟩
    · simp at h
  · simp only [cond_eq_ite] at h
    split at h
    · simp only [Option.some.injEq] at h
      subst h
      exact ⟨ho, fun b q hq => hq⟩
    · simp at h
  · split at h
    · rename_i hc
      obtain ⟨rfl, rfl⟩ := hc
      simp only [Option.some.injEq] at h
      subst h
      exact ⟨ho, fun b q hq => hq⟩
    · simp at h
  · simp only [cond_eq_ite] at h
    split at h
    · rename_i hc
      rw [Bool.and_eq_true] at hc
      have hq := Inn.eq_of hc.2
      subst hq
      simp only [Option.some.injEq] at h
      subst h
      exact ⟨ho, fun b q hq => hq⟩
    · simp at h
  · simp at h

theorem fitOs_get : ∀ {l : List OSh} {os ps : List Ob}, fitOs l os = some ps → ps.length = os.length ∧ ∀ (i : Nat) (p : Ob), ps[i]? = some p → ∃ s o, os[i]? = some o ∧ fitO s o = some p
  | [], [], ps, h => by
    simp only [fitOs, Option.some.injEq] at h
    subst h
    exact ⟨rfl, fun i p hp => by simp at hp⟩
  | [], _ :: _, _, h => by simp [fitOs] at h
  | _ :: _, [], _, h => by simp [fitOs] at h
  | s :: l, o :: os, ps, h => by
    simp only [fitOs] at h
    split at h
    · rename_i p ps' e1 e2
      simp only [Option.some.injEq] at h
      subst h
      obtain ⟨k1, k2⟩ := fitOs_get e2
      refine ⟨by simp [k1], fun i q hq => ?_⟩
      cases i with
      | zero =>
        simp only [List.getElem?_cons_zero, Option.some.injEq] at hq
        subst hq
        exact ⟨s, o, rfl, e1⟩
      | succ i => simpa using k2 i q (by simpa using hq)
    · simp at h

theorem undefs_get : ∀ {n i : Nat} {e : Ent}, (undefs n)[i]? = some e → e = .undef
  | 0, _, _, h => by simp [undefs] at h
  | n + 1, 0, e, h => by simpa [undefs] using h.symm
  | n + 1, i + 1, e, h => undefs_get (n := n) (i := i) (by simpa [undefs] using h)
theorem undefs_length : ∀ n, (undefs n).length = n
  | 0 => rfl
  | n + 1 => by simp [undefs, undefs_length n]
theorem setSlots_length : ∀ (ts : List Ent) (l : List (Nat × ESh)) (es : List Ent), (setSlots ts l es).length = ts.length
  | ts, [], es => by cases es <;> rfl
  | ts, _ :: _, [] => rfl
  | ts, s :: l, e :: es => by simp only [setSlots]; rw [setSlots_length, setNth_length]

theorem setSlots_sim (hs : Sit S st a w Z L) : ∀ {l : List (Nat × ESh)} {es ts : List Ent}, fitEs st l = some es →
    (∀ (d : Nat) (e : Ent), ts[d]? = some e → ESim w Z L e (a.tmps.getD d undef)) → ∀ (d : Nat) (e : Ent), (setSlots ts l es)[d]? = some e → ESim w Z L e (a.tmps.getD d undef)
  | [], es, ts, _, ht, d, e, hd => ht d e (by cases es <;> exact hd)
  | s :: l, es, ts, h, ht, d, e, hd => by
    simp only [fitEs] at h
    split at h
    · rename_i f fs e1 e2
      simp only [Option.some.injEq] at h
      subst h
      simp only [setSlots] at hd
      refine setSlots_sim hs e2 (fun d' e' hd' => ?_) d e hd
      rw [setNth_eq] at hd'
      by_cases hdd : d' = s.1
      · subst hdd
        have hlt : s.1 < ts.length := by
          have := (List.getElem?_eq_some_iff.1 hd').1
          simpa using this
        rw [List.getElem?_set_self hlt] at hd'
        simp only [Option.some.injEq] at hd'
        subst hd'
        exact fitE_sim e1 (hs.tmp _)
      · rw [List.getElem?_set_ne (by omega)] at hd'
        exact ht d' e' hd'
    · simp at h

theorem Sit.fit (hs : Sit S st a w Z L) {k : Cut} {es : List Ent} {os : List Ob} {n : Nat} (h1 : fitEs st k.slots = some es) (h2 : fitOs k.objs st.objs = some os) (hn : n = a.tmps.size) :
    Sit S (mkSt n k es os) a w Z L := by
  obtain ⟨g1, g2⟩ := fitOs_get h2
  refine ⟨by simp [mkSt, setSlots_length, undefs_length, hn], setSlots_sim hs h1 (fun d e hd => by rw [undefs_get hd]; trivial),
    ⟨by simp [mkSt, hs.sims.len, g1], fun i o l ho hl => ?_, fun i j o l o' l' ho hl ho' hl' hij b q q1 q2 => ?_, fun i o l ho hl b q hq hz => ?_, hs.sims.zin, hs.sims.tab⟩,
    hs.keeps, hs.zup, hs.znew, fun i o l ho hl b q hq => ?_, hs.lents, hs.defers⟩
  · obtain ⟨s, o1, k1, k2⟩ := g2 i o ho
    exact (fitO_sim k2 (hs.sims.ob i o1 l k1 hl)).1
  · obtain ⟨s, o1, k1, k2⟩ := g2 i o ho
    obtain ⟨s', o1', k1', k2'⟩ := g2 j o' ho'
    exact hs.sims.sep i j o1 l o1' l' k1 hl k1' hl' hij b q ((fitO_sim k2 (hs.sims.ob i o1 l k1 hl)).2 b q q1) ((fitO_sim k2' (hs.sims.ob j o1' l' k1' hl')).2 b q q2)
  · obtain ⟨s, o1, k1, k2⟩ := g2 i o ho
    exact hs.sims.zap i o1 l k1 hl b q ((fitO_sim k2 (hs.sims.ob i o1 l k1 hl)).2 b q hq) hz
  · obtain ⟨s, o1, k1, k2⟩ := g2 i o ho
    exact hs.fnew i o1 l k1 hl b q ((fitO_sim k2 (hs.sims.ob i o1 l k1 hl)).2 b q hq)

/-! ### what holds of all that fits holds of what fits -/
theorem valC_length : ∀ {l : List Sh} {cs : List Cell}, (valC l cs).1.length = (valC l cs).2.length
  | [], cs => by simp [valC]
  | s :: l, [] => by cases s <;> simp [valC]
  | s :: l, c :: cs => by cases s <;> simp [valC, valC_length (l := l) (cs := cs)]
theorem valE_length : ∀ {l : List (Nat × ESh)} {es : List Ent}, (valE l es).1.length = (valE l es).2.length
  | [], es => by simp [valE]
  | s :: l, [] => by simp [valE]
  | s :: l, e :: es => by simp [valE, valC_length, valE_length (l := l) (es := es)]
theorem valE_cons {s : Nat × ESh} {l : List (Nat × ESh)} {e : Ent} {es : List Ent} (h : (valE (s :: l) (e :: es)).1 = (valE (s :: l) (e :: es)).2) :
    (valC s.2.list e.cells).1 = (valC s.2.list e.cells).2 ∧ (valE l es).1 = (valE l es).2 := by
  simp only [valE] at h
  exact List.append_inj h valC_length
theorem valO_cons {ss : List Sh} {l : List OSh} {cs : List Cell} {os : List Ob} (h : (valO (.box ss :: l) (.box cs :: os)).1 = (valO (.box ss :: l) (.box cs :: os)).2) :
    (valC ss cs).1 = (valC ss cs).2 ∧ (valO l os).1 = (valO l os).2 := by
  simp only [valO] at h
  exact List.append_inj h valC_length
theorem allC_use : ∀ {l : List Sh} {cs ds : List Cell} {K : List Cell → Prop}, fitCs l cs = some ds → (valC l ds).1 = (valC l ds).2 → allC l K → K ds
  | [], [], ds, K, h, _, hk => by
    simp only [fitCs, Option.some.injEq] at h
    subst h
    exact hk
  | [], _ :: _, _, _, h, _, _ => by simp [fitCs] at h
  | _ :: _, [], _, _, h, _, _ => by simp [fitCs] at h
  | s :: l, c :: cs, ds, K, h, hv, hk => by
    simp only [fitCs] at h
    split at h
    · rename_i d ds' e1 e2
      simp only [Option.some.injEq] at h
      subst h
      have hv' : (valC l ds').1 = (valC l ds').2 := by
        cases s <;> simp only [valC] at hv
        case val => exact (List.cons.inj hv).2
        all_goals exact hv
      have use : ∀ d : Cell, allC l (fun cs => K (d :: cs)) → K (d :: ds') := fun d hh => allC_use (K := fun cs => K (d :: cs)) e2 hv' hh
      unfold fitC at e1
      split at e1
      · split at e1
        · rename_i heq
          simp only [Option.some.injEq] at e1
          subst e1 heq
          exact use _ (hk _)
        · simp at e1
      · simp only [Option.some.injEq] at e1; subst e1; exact use _ (hk _)
      · simp only [Option.some.injEq] at e1; subst e1; exact use _ (hk _)
      · simp only [cond_eq_ite] at e1
        split at e1
        · rename_i heq
          have := Ty.eqb_eq heq
          subst this
          simp only [Option.some.injEq] at e1
          subst e1
          exact use _ (hk _)
        · simp at e1
      · simp only [Option.some.injEq] at e1; subst e1; exact use _ (hk _)
      · simp only [Option.some.injEq] at e1; subst e1; exact use _ (hk _)
      · simp only [cond_eq_ite] at e1
        split at e1
        · rename_i heq
          have := Nat.eq_of_beq_eq_true heq
          subst this
          simp only [Option.some.injEq] at e1
          subst e1
          exact use _ (hk _ _)
        · simp at e1
      · simp only [cond_eq_ite] at e1
        split at e1
        · simp only [Option.some.injEq] at e1
          subst e1
          exact use _ hk
        · simp at e1
      · simp only [Option.some.injEq] at e1
        subst e1
        simp only [valC] at hv
        rw [(List.cons.inj hv).1]
        exact use _ hk
      · simp only [cond_eq_ite] at e1
        split at e1
        · simp only [Option.some.injEq] at e1
          subst e1
          exact use _ (hk _)
        · simp at e1
      · simp only [cond_eq_ite] at e1
        split at e1
        · rename_i heq
          simp only [Bool.and_eq_true] at heq
          have h1 := Ty.eqb_eq heq.1
          have h2 := Nat.eq_of_beq_eq_true heq.2
          subst h1 h2
          simp only [Option.some.injEq] at e1
          subst e1
          exact use _ (hk _)
        · simp at e1
      · simp at e1
    · simp at h

theorem allE_use : ∀ {l : List (Nat × ESh)} {es : List Ent} {K : List Ent → Prop}, fitEs st l = some es → (valE l es).1 = (valE l es).2 → allE l K → K es
  | [], es, K, h, _, hk => by
    simp only [fitEs, Option.some.injEq] at h
    subst h
    exact hk
  | s :: l, es, K, h, hv, hk => by
    simp only [fitEs] at h
    split at h
    · rename_i e es' e1 e2
      simp only [Option.some.injEq] at h
      subst h
      obtain ⟨hv1, hv2⟩ := valE_cons hv
      obtain ⟨d, sh⟩ := s
      cases sh with
      | one s =>
        simp only [allE] at hk
        unfold fitE at e1
        split at e1
        · rename_i s' c hs' hc
          simp only [ESh.one.injEq] at hs'
          subst hs'
          split at e1
          · rename_i c' hc'
            simp only [Option.some.injEq] at e1
            subst e1
            have hf : fitCs [s] [c] = some [c'] := by simp [fitCs, hc']
            have h1 := allC_use (K := fun cs => match cs with
              | [c] => allE l fun es => K (.one c :: es)
              | _ => True) hf hv1 hk
            exact allE_use (K := fun es => K (.one c' :: es)) e2 hv2 h1
          · simp at e1
        · rename_i hs' _; simp at hs'
        · simp at e1
      | agg ss =>
        simp only [allE] at hk
        unfold fitE at e1
        split at e1
        · rename_i hs' _; simp at hs'
        · rename_i ss' cs hs' hc
          simp only [ESh.agg.injEq] at hs'
          subst hs'
          split at e1
          · rename_i cs' hc'
            simp only [Option.some.injEq] at e1
            subst e1
            have h1 := allC_use (K := fun cs => allE l fun es => K (.agg cs :: es)) hc' hv1 hk
            exact allE_use (K := fun es => K (.agg cs' :: es)) e2 hv2 h1
          · simp at e1
        · simp at e1
    · simp at h

theorem allO_use : ∀ {l : List OSh} {os ps : List Ob} {K : List Ob → Prop}, fitOs l os = some ps → (valO l ps).1 = (valO l ps).2 → allO l K → K ps
  | [], [], ps, K, h, _, hk => by
    simp only [fitOs, Option.some.injEq] at h
    subst h
    exact hk
  | [], _ :: _, _, _, h, _, _ => by simp [fitOs] at h
  | _ :: _, [], _, _, h, _, _ => by simp [fitOs] at h
  | s :: l, o :: os, ps, K, h, hv, hk => by
    simp only [fitOs] at h
    split at h
    · rename_i p ps' e1 e2
      simp only [Option.some.injEq] at h
      subst h
      unfold fitO at e1
      split at e1
      · simp only [Option.some.injEq] at e1; subst e1; exact allO_use (K := fun os => K (.dead :: os)) e2 (by simpa [valO] using hv) hk
      · split at e1
        · rename_i hc
          simp only [Option.some.injEq] at e1
          subst e1
          rename_i cs' _
          obtain ⟨hv1, hv2⟩ := valO_cons hv
          have h1 := allC_use (K := fun cs => allO l fun os => K (.box cs :: os)) hc hv1 hk
          exact allO_use (K := fun os => K (.box _ :: os)) e2 hv2 h1
        · simp at e1
      · simp only [cond_eq_ite] at e1
        split at e1
        · rename_i heq
          simp only [Bool.and_eq_true] at heq
          have h1 := Nat.eq_of_beq_eq_true heq.1
          have h2 := Ty.eqb_eq heq.2
          subst h1 h2
          simp only [Option.some.injEq] at e1
          subst e1
          exact allO_use (K := fun os => K (.row _ _ _ :: os)) e2 (by simpa [valO] using hv) (hk _)
        · simp at e1
      · split at e1
        · rename_i hc
          obtain ⟨rfl, rfl⟩ := hc
          simp only [Option.some.injEq] at e1
          subst e1
          exact allO_use (K := fun os => K (.imap _ _ _ :: os)) e2 (by simpa [valO] using hv) (hk _)
        · simp at e1
      · simp only [cond_eq_ite] at e1
        split at e1
        · rename_i heq
          rw [Bool.and_eq_true] at heq
          have hq := Inn.eq_of heq.2
          have h0 := heq.1
          simp only [Bool.and_eq_true] at h0
          have h1 := Nat.eq_of_beq_eq_true h0.1
          have h2 := Ty.eqb_eq h0.2
          subst h1 h2 hq
          simp only [Option.some.injEq] at e1
          subst e1
          exact allO_use (K := fun os => K (.nest _ _ _ _ none :: os)) e2 (by simpa [valO] using hv) (hk _)
        · simp at e1
      · simp at e1
    · simp at h

theorem arrive_sound {k : Cut} {nl n : Nat} {J : List Ent → List Ob → Prop} (hs : Sit S st a w Z L) (hnl : S.L.length = nl) (h : arrive n nl k st J) :
    ∃ es os, J es os ∧ (∃ Z' L', Sit S (mkSt n k es os) a w Z' L') ∧ ∀ R : List Ent → List Ob → Prop, (allE k.slots fun es => allO k.objs fun os => R es os) → R es os := by
  unfold arrive at h
  dsimp only at h
  obtain ⟨Z1, L1, h1⟩ := hs.obeys (cmdS nl st k.objs k.slots ++ cmdB nl st k.objs k.objs (bindAll st nl k))
  split at h
  · rename_i M hM
    split at h
    · rename_i hc
      simp only [Bool.and_eq_true] at hc
      obtain ⟨c1, c2, c3, c4⟩ := hc
      split at h
      · rename_i es os e1 e2
        have h2 := h1.pick (nodupN_nodup c1) (allLt_lt c2) c3 hnl
        rw [sameVals_iff, sameVals_iff] at h
        exact ⟨es, os, h.2.2, ⟨Z1, _, h2.fit e1 e2 (by rw [← Nat.eq_of_beq_eq_true c4, hs.tlen])⟩, fun R hR => allO_use (K := fun os => R es os) e2 h.2.1 (allE_use (K := fun es => allO k.objs fun os => R es os) e1 h.1 hR)⟩
      · exact h.elim
    · exact h.elim
  · exact h.elim
end
end Go.Ry
set_option linter.unusedVariables false
set_option linter.unusedSimpArgs false
namespace Go.Ry

section
variable {P : Program} {S : Start} {st : St} {a : Act} {w w' : World} {Z Z' : Nat → Prop} {L L' : List Loc} {T : Tab} {C : Calls_} {G : List (Nat × Sig)} {K : St → Prop} {Q : Exit → Act → World → Prop}

theorem Sit.setTmp (hs : Sit S st a w Z L) {d : Nat} {e : Ent} (he : ESim w Z L e (a.tmps.getD d undef)) : Sit S ⟨setNth st.tmps d e, st.objs⟩ a w Z L := by
  refine ⟨by simp [setNth_eq, hs.tlen], fun d' e' hd => ?_, hs.sims, hs.keeps, hs.zup, hs.znew, hs.fnew, hs.lents, hs.defers⟩
  simp only [setNth_eq] at hd
  by_cases hdd : d' = d
  · subst hdd
    have hlt : d' < st.tmps.length := by
      have := (List.getElem?_eq_some_iff.1 hd).1
      simpa using this
    rw [List.getElem?_set_self hlt] at hd
    simp only [Option.some.injEq] at hd
    subst hd
    exact he
  · rw [List.getElem?_set_ne (by omega)] at hd
    exact hs.tmps d' e' hd

theorem undef_sim (w : World) (Z : Nat → Prop) (L : List Loc) : ESim w Z L (.tup []) undef := ⟨#[], rfl, trivial⟩

theorem opsW_sound {ops : Array Oper} (hT : tabOk P T = true) (hC : Told P C) (hg : Goes S K fun a w => Q .normal a w) :
    ∀ (os : List Oper) (k : Nat) {st : St} {a : Act} {w : World} {Z : Nat → Prop} {L : List Loc}, os = ops.toList.drop k → Sit S st a w Z L → opsW T C G ops.toList os st K →
      wpOps P ops Q (List.range' k os.length) a w
  | [], k, st, a, w, Z, L, _, hs, h => hg _ _ _ _ _ hs h
  | o :: os, k, st, a, w, Z, L, hk, hs, h => by
    have hget : ops[k]? = some o := by
      have h1 : (o :: os)[0]? = ops.toList[k]? := by rw [hk, List.getElem?_drop]; rfl
      rw [← Array.getElem?_toList, ← h1]
      rfl
    have hos : os = ops.toList.drop (k + 1) := by
      have := congrArg List.tail hk
      simpa using this
    have ih : ∀ {st : St} {a : Act} {w : World} {Z : Nat → Prop} {L : List Loc}, Sit S st a w Z L → opsW T C G ops.toList os st K → wpOps P ops Q (List.range' (k + 1) os.length) a w :=
      fun hs h => opsW_sound hT hC hg os (k + 1) hos hs h
    have ihg : Goes S (fun st => opsW T C G ops.toList os st K) (wpOps P ops Q (List.range' (k + 1) os.length)) := fun st a w Z L hs h => ih hs h
    rw [List.length_cons, List.range'_succ]
    simp only [wpOps, hget]
    simp only [opsW] at h
    split at h
    · rename_i hgd
      rw [if_pos (by simp [Region.wanted, hgd])]
      exact .inl (opW_sound hT hC hs ihg h)
    · rename_i j want hgd
      split at h
      · rename_i d hd
        rw [nth_eq, Array.getElem?_toList] at hd
        have htmp := hs.tmp d
        have hy : ∀ v, a.tmps.getD d undef = v → yielded ops a.tmps j = match v with
            | .bool b => some b
            | _ => none := by
          rintro v rfl
          unfold yielded
          rw [hd, Option.bind_some, Array.getD_eq_getD_getElem?]
          cases a.tmps[d]? with
          | none => rfl
          | some v => cases v <;> rfl
        have skip : ∀ {st' : St}, Sit S st' a w Z L → yielded ops a.tmps j ≠ some want → opsW T C G ops.toList os (st'.putO o.dst (.tup [])) K →
            (if Region.wanted o (yielded ops a.tmps) = true then o.wp P a w (wpOps P ops Q (List.range' (k + 1) os.length)) Q ∨ (o.asks P a w ∧ LetsOut Q) else wpOps P ops Q (List.range' (k + 1) os.length) (a.put o.dst undef) w) := by
          intro st' hs' hne h
          rw [if_neg (by simp only [Region.wanted, hgd, beq_iff_eq]; exact hne)]
          exact ih (hs'.put (undef_sim _ _ _) _) h
        have run : ∀ {st' : St}, Sit S st' a w Z L → yielded ops a.tmps j = some want → opW T C G o st' (fun st => opsW T C G ops.toList os st K) →
            (if Region.wanted o (yielded ops a.tmps) = true then o.wp P a w (wpOps P ops Q (List.range' (k + 1) os.length)) Q ∨ (o.asks P a w ∧ LetsOut Q) else wpOps P ops Q (List.range' (k + 1) os.length) (a.put o.dst undef) w) := by
          intro st' hs' hne h
          rw [if_pos (by simp only [Region.wanted, hgd, beq_iff_eq]; exact hne)]
          exact .inl (opW_sound hT hC hs' ihg h)
        split at h
        · rename_i ht
          rw [ht] at htmp
          obtain ⟨vs, e1, e2⟩ := htmp
          exact skip hs (by rw [hy _ e1]; simp) h
        · rename_i b ht
          rw [ht] at htmp
          have hb : a.tmps.getD d undef = .bool b := htmp
          have hs' : Sit S ⟨setNth st.tmps d (.one (.bool b)), st.objs⟩ a w Z L := hs.setTmp htmp
          split at h
          · cases b
            · simp only [ifB] at h
              exact skip hs' (by rw [hy _ hb]; simp) h
            · simp only [ifB] at h
              exact run hs' (by rw [hy _ hb]) h
          · cases b
            · simp only [ifB] at h
              exact run hs' (by rw [hy _ hb]) h
            · simp only [ifB] at h
              exact skip hs' (by rw [hy _ hb]; simp) h
        · exact h.elim
      · exact h.elim
end
end Go.Ry
set_option linter.unusedVariables false
set_option linter.unusedSimpArgs false
namespace Go.Ry

def Alike (w : World) (Z : Nat → Prop) (B : Nat → Nat → Prop) (w' : World) : Prop :=
  (∀ b, Z b → w'.heap[b]? = w.heap[b]?) ∧ ∀ g o, B g o → w'.cell? ⟨g, o, none⟩ = w.cell? ⟨g, o, none⟩
theorem Alike.refl (w : World) (Z : Nat → Prop) (B : Nat → Nat → Prop) : Alike w Z B w := ⟨fun _ _ => rfl, fun _ _ _ => rfl⟩

def prot (X : List Nat) (os : List Ob) (L : List Loc) (g q : Nat) : Prop := ∃ i, i ∈ X ∧ ∃ ob l, os[i]? = some ob ∧ L[i]? = some l ∧ foot ob l g q

section
variable {P : Program} {ops : Array Oper} {C : Array Bool → World → Prop} {Q : Exit → Act → World → Prop}

def Down (ops : Array Oper) (listed : Array Bool) : Prop := ∀ (j : Nat) (o : Oper), listed.getD j false = true → ops[j]? = some o → ∀ e ∈ o.after, Region.binds .any e = true → listed.getD e.on false = true
def Sup (a b : Array Bool) : Prop := ∀ j : Nat, a.getD j false = true → b.getD j false = true

theorem getD_set {listed : Array Bool} {i j : Nat} (h : (listed.setIfInBounds i true).getD j false = true) : j = i ∨ listed.getD j false = true := by
  by_cases hij : i = j
  · exact .inl hij.symm
  · rw [getD_set_ne false hij] at h
    exact .inr h
theorem Sup.set {a b : Array Bool} (h : Sup a b) (i : Nat) : Sup a (b.setIfInBounds i true) := fun j hj => getD_set_true (h j hj)
theorem Down.set {listed : Array Bool} {i : Nat} (h : Down ops listed) (hi : i ∈ Region.ready .any ops listed) : Down ops (listed.setIfInBounds i true) := by
  intro j o hj ho e he hb
  obtain ⟨_, o', ho', hall⟩ := mem_ready.1 hi
  rcases getD_set hj with rfl | hj
  · rw [ho] at ho'
    simp only [Option.some.injEq] at ho'
    subst ho'
    exact getD_set_true (hall e he hb)
  · exact getD_set_true (h j o hj ho e he hb)

def wpAnyC (P : Program) (ops : Array Oper) (Q : Exit → Act → World → Prop) (C : Array Bool → World → Prop) : Nat → Array Bool → Act → World → Prop
  | 0, listed, a, w => C listed w ∧ Region.ready .any ops listed = [] ∧ Q .normal a w
  | fuel + 1, listed, a, w => C listed w ∧ (Region.ready .any ops listed = [] → Q .normal a w) ∧
    ∀ i ∈ Region.ready .any ops listed, wpOp P ops Q i (wpAnyC P ops Q C fuel (listed.setIfInBounds i true)) a w

theorem wpAnyC.here : ∀ {fuel : Nat} {listed : Array Bool} {a : Act} {w : World}, wpAnyC P ops Q C fuel listed a w → C listed w
  | 0, _, _, _, h => h.1
  | _ + 1, _, _, _, h => h.1
theorem wpAnyC.any : ∀ {fuel : Nat} {listed : Array Bool} {a : Act} {w : World}, wpAnyC P ops Q C fuel listed a w → wpAny P .any ops Q fuel listed a w
  | 0, _, _, _, h => h.2
  | _ + 1, _, _, _, h => ⟨h.2.1, fun i hi => wpOp_mono (fun _ _ hh => wpAnyC.any hh) (h.2.2 i hi)⟩
theorem wpAnyC.mono {C' : Array Bool → World → Prop} {l0 : Array Bool} (hC : ∀ l w, Sup l0 l → C l w → C' l w) : ∀ {fuel : Nat} {listed : Array Bool} {a : Act} {w : World}, Sup l0 listed → wpAnyC P ops Q C fuel listed a w → wpAnyC P ops Q C' fuel listed a w
  | 0, _, _, _, hs, h => ⟨hC _ _ hs h.1, h.2⟩
  | _ + 1, _, _, _, hs, h => ⟨hC _ _ hs h.1, h.2.1, fun i hi => wpOp_mono (fun _ _ hh => wpAnyC.mono hC (hs.set i) hh) (h.2.2 i hi)⟩

def YieldsC (P : Program) (ops : Array Oper) (C : Array Bool → World → Prop) (i : Nat) (o : Oper) (v : Value) (a : Act) : Prop :=
  (Region.wanted o (yielded ops a.tmps) = true ∧ ∀ l w, Down ops l → l.getD i false = false → C l w → (execOp a.eval o).run P w = .ok (.value v) w) ∨
  (Region.wanted o (yielded ops a.tmps) = false ∧ v = undef)

theorem YieldsC.wpOp {i : Nat} {o : Oper} {v : Value} {a : Act} (hi : ops[i]? = some o) (hy : YieldsC P ops C i o v a)
    {K : Act → World → Prop} {w : World} {l : Array Bool} (hd : Down ops l) (hl : l.getD i false = false) (hc : C l w) (h : K (a.put o.dst v) w) : wpOp P ops Q i K a w := by
  unfold Go.wpOp
  simp only [hi]
  rcases hy with ⟨hw, hv⟩ | ⟨hw, rfl⟩
  · simp only [hw, if_true, Oper.wp, hv l w hd hl hc, Oper.upon]; exact .inl h
  · simp only [hw, Bool.false_eq_true, if_false]; exact h

theorem YieldsC.of_same {i : Nat} {o : Oper} {v : Value} {a a' : Act} (hy : YieldsC P ops C i o v a) (he : execOp a'.eval o = execOp a.eval o)
    (hw : Region.wanted o (yielded ops a'.tmps) = Region.wanted o (yielded ops a.tmps)) : YieldsC P ops C i o v a' := by
  unfold YieldsC at *
  rw [he, hw]
  exact hy

theorem wpOp_putC {i j : Nat} {oi oj : Oper} {v : Value} (hj : ops[j]? = some oj) (hap : oi.apart ops oj = true)
    (hsi : ∀ cs b, oi.op ≠ .select cs b) (hsj : ∀ cs b, oj.op ≠ .select cs b)
    (hQ : ∀ c a w, Q (.panic c) (a.put oi.dst v) w → Q (.panic c) a w) {K : Act → World → Prop} {a : Act} {w : World}
    (hy : YieldsC P ops C i oi v a) (h : wpOp P ops Q j K (a.put oi.dst v) w) :
    wpOp P ops Q j (fun a' w' => YieldsC P ops C i oi v a' ∧ K (a'.put oi.dst v) w') a w := by
  obtain ⟨h1, h2, h3⟩ := Oper.apart_spec hap
  have keep : ∀ (a : Act), YieldsC P ops C i oi v a → ∀ u, YieldsC P ops C i oi v (a.put oj.dst u) := fun a hy u =>
    hy.of_same (execOp_put oi hsi a oj.dst u h3) (wanted_put oi a oj.dst u h3)
  have keepD : ∀ d, YieldsC P ops C i oi v { a with defers := d :: a.defers } := fun d => hy.of_same rfl rfl
  unfold wpOp at *
  simp only [hj] at *
  rw [wanted_put oj a oi.dst v h1] at h
  split
  · rename_i hw
    simp only [hw, if_true] at h
    rcases h with h | ⟨hasks, hlets⟩
    case inr => exact .inr ⟨by unfold Oper.asks at *; rw [execOp_put oj hsj a oi.dst v h1] at hasks; exact hasks, hlets⟩
    refine .inl ?_
    unfold Oper.wp at *
    rw [execOp_put oj hsj a oi.dst v h1] at h
    generalize (execOp a.eval oj).run P w = r at *
    cases r with
    | ok n w' =>
      cases n <;> simp only [Oper.upon] at h ⊢
      case value u => exact ⟨keep a hy u, by rw [← Act.put_comm a v u h2]; exact h⟩
      case skip => exact ⟨keep a hy _, by rw [← Act.put_comm a v undef h2]; exact h⟩
      case defer d =>
        refine ⟨keep _ (keepD d) _, ?_⟩
        rw [← Act.put_comm _ v undef h2, ← Act.put_defers]
        exact h
      case enter f args =>
        refine Calls.mono h fun e w'' he => ?_
        cases e with
        | returned u => exact ⟨keep a hy u, by rw [← Act.put_comm a v u h2]; exact he⟩
        | panicked c => exact hQ _ _ _ he
        | outgrown => exact he
      case row row args => exact Rows.mono h fun u w'' he => ⟨keep a hy u, by rw [← Act.put_comm a v u h2]; exact he⟩
    | halt x w' =>
      cases x <;> simp only [Oper.upon] at h ⊢
      case panic u => exact hQ _ _ _ h
  · rename_i hw
    simp only [hw] at h
    exact ⟨keep a hy _, by rw [← Act.put_comm a v undef h2]; exact h⟩

theorem unl {listed : Array Bool} {i : Nat} (hi : i ∈ Region.ready .any ops listed) : listed.getD i false = false := by
  have h := (mem_ready.1 hi).1
  rw [Array.getD_eq_getD_getElem?] at h ⊢
  cases hx : listed[i]? with
  | none => rfl
  | some b => rw [hx] at h; exact h

theorem wpAnyC_first {i : Nat} {oi : Oper} {v : Value} (hi : ops[i]? = some oi) (hsel : ∀ (j : Nat) (o : Oper) cs b, ops[j]? = some o → o.op ≠ .select cs b)
    (hQ : ∀ c a w, Q (.panic c) (a.put oi.dst v) w → Q (.panic c) a w) (hCi : ∀ l w, C (l.setIfInBounds i true) w → C l w) :
    ∀ (fuel : Nat) (listed : Array Bool) (a : Act) (w : World), Down ops listed →
      (∀ j oj, ops[j]? = some oj → j ≠ i → listed.getD j true = false → (∀ e ∈ oj.after, Region.binds .any e = true → e.on ≠ i) → oi.apart ops oj = true) →
      i ∈ Region.ready .any ops listed → YieldsC P ops C i oi v a →
      wpAnyC P ops Q C fuel (listed.setIfInBounds i true) (a.put oi.dst v) w → wpAnyC P ops Q C (fuel + 1) listed a w := by
  intro fuel
  induction fuel with
  | zero =>
    intro listed a w hd _ hr hy H
    have hun := unl hr
    refine ⟨hCi _ _ H.here, fun h => (by rw [h] at hr; cases hr), fun j hj => ?_⟩
    by_cases hji : j = i
    · subst hji; exact hy.wpOp hi hd hun (hCi _ _ H.here) H
    · have := ready_mono hj hji
      rw [H.2.1] at this
      cases this
  | succ fuel ih =>
    intro listed a w hd hfree hr hy H
    have hun := unl hr
    refine ⟨hCi _ _ H.here, fun h => (by rw [h] at hr; cases hr), fun j hj => ?_⟩
    by_cases hji : j = i
    · subst hji; exact hy.wpOp hi hd hun (hCi _ _ H.here) H
    · have h1 := H.2.2 j (ready_mono hj hji)
      obtain ⟨hjun, oj, hoj, hall⟩ := mem_ready.1 hj
      have hnot : ∀ e ∈ oj.after, Region.binds .any e = true → e.on ≠ i := fun e he hb heq => by
        have h1 := hall e he hb
        have h0 := (mem_ready.1 hr).1
        rw [heq] at h1
        rcases Nat.lt_or_ge i listed.size with h' | h'
        · simp [h'] at h0 h1; rw [h0] at h1; cases h1
        · simp [Array.getElem?_eq_none h'] at h1
      have h2 := wpOp_putC hoj (hfree j oj hoj hji hjun hnot) (fun cs b => hsel i oi cs b hi) (fun cs b => hsel j oj cs b hoj) hQ hy h1
      have hfree' : ∀ k ok, ops[k]? = some ok → k ≠ i → (listed.setIfInBounds j true).getD k true = false →
          (∀ e ∈ ok.after, Region.binds .any e = true → e.on ≠ i) → oi.apart ops ok = true := fun k ok hk hki hun hno => by
        refine hfree k ok hk hki ?_ hno
        by_cases hjk : j = k
        · subst hjk; exact hjun
        · rw [getD_set_ne true hjk] at hun; exact hun
      refine wpOp_mono (fun a' w' h3 => ih (listed.setIfInBounds j true) a' w' (hd.set hj) hfree' (ready_mono hr (Ne.symm hji)) h3.1 ?_) h2
      rw [Array.setIfInBounds_comm _ _ hji]
      exact h3.2
end
end Go.Ry
