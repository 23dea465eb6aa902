/- The evaluator is right: getting ready for a cut (2). No condition. -/
import Derived.Test.YtlphiljackccnaaRy28
set_option linter.unusedVariables false
set_option linter.unusedSimpArgs false
namespace Go.Ry

section
variable {S : Start} {st : St} {a : Act} {w w' : World} {Z Z' : Nat → Prop} {L L' : List Loc}

theorem St.tmp_get {d : Nat} (h : st.tmp d ≠ .undef) : st.tmps[d]? = some (st.tmp d) := by
  unfold St.tmp at h ⊢
  rw [nth_eq] at h ⊢
  cases hd : st.tmps[d]? with
  | none => rw [hd] at h; exact absurd rfl h
  | some e => rfl

theorem CsSim.setAt {cs : List Cell} {vs : List Value} {j : Nat} {c : Cell} (h : CsSim w Z L cs vs) (hc : ∀ v, CSim w Z L ((Ry.nth cs j).getD .undef) v → CSim w Z L c v) : CsSim w Z L (Ry.setNth cs j c) vs := by
  refine h.setNth fun v hv => hc v ?_
  have hj : j < cs.length := by
    have := (List.getElem?_eq_some_iff.1 hv).1
    rw [h.length] at this
    exact this
  obtain ⟨u, h1, h2⟩ := h.get (List.getElem?_eq_getElem hj)
  rw [hv] at h1
  simp only [Option.some.injEq] at h1
  subst h1
  rw [nth_eq, List.getElem?_eq_getElem hj]
  exact h2

theorem setNth_length {α : Type} (l : List α) (n : Nat) (b : α) : (setNth l n b).length = l.length := by
  rw [setNth_eq, List.length_set]

/-- A cell is told otherwise. -/
theorem Sit.setAt (h : Sit S st a w Z L) {p : Pos} {c : Cell} (hc : ∀ v, CSim w Z L (st.at p) v → CSim w Z L c v) : Sit S (st.setAt p c) a w Z L := by
  cases p with
  | slot d j =>
    simp only [St.setAt]
    refine ⟨by simp [setNth_eq, h.tlen], fun d' e he => ?_, h.sims, h.keeps, h.zup, h.znew, h.fnew, h.lents, h.defers⟩
    simp only [setNth_eq] at he
    by_cases hdd : d' = d
    · subst hdd
      have hlt : d' < st.tmps.length := by
        have := (List.getElem?_eq_some_iff.1 he).1
        simpa using this
      rw [List.getElem?_set_self hlt] at he
      simp only [Option.some.injEq] at he
      subst he
      have h0 := h.tmp d'
      simp only [St.at] at hc
      cases hx : st.tmp d' with
      | undef => trivial
      | tup l => rw [hx] at h0; exact h0
      | one x =>
        rw [hx] at h0 hc
        cases j with
        | zero => exact hc _ h0
        | succ j => exact h0
      | agg cs =>
        rw [hx] at h0 hc
        obtain ⟨vs, e1, e2⟩ := h0
        exact ⟨vs, e1, e2.setAt hc⟩
    · rw [List.getElem?_set_ne (by omega)] at he
      exact h.tmps d' e he
  | box i j =>
    simp only [St.setAt]
    simp only [St.at] at hc
    split
    · rename_i cs hb
      rw [hb] at hc
      have hbx : st.box i = some cs := by simp [St.box, hb]
      obtain ⟨g, q, vs, h1, h2, h3, h4⟩ := h.boxAt hbx
      exact h.set h1 h2 (Keeps.refl _ _) ⟨g, q, vs, rfl, h3.setAt hc, h4⟩ fun b o hq => by
        simp only [foot, setNth_length] at hq ⊢
        exact hq
    · exact h

theorem Sit.at (h : Sit S st a w Z L) {p : Pos} (hp : st.at p ≠ .undef) : ∃ v, CSim w Z L (st.at p) v := by
  have key : ∀ {cs : List Cell} {vs : List Value} {j : Nat}, CsSim w Z L cs vs → (nth cs j).getD .undef ≠ .undef → ∃ v, CSim w Z L ((nth cs j).getD .undef) v := by
    intro cs vs j hcs hne
    rw [nth_eq] at hne ⊢
    cases hj : cs[j]? with
    | none => rw [hj] at hne; exact absurd rfl hne
    | some c =>
      obtain ⟨v, _, h2⟩ := hcs.get hj
      exact ⟨v, h2⟩
  cases p with
  | slot d j =>
    simp only [St.at] at hp ⊢
    have h0 := h.tmp d
    cases hx : st.tmp d with
    | undef => rw [hx] at hp; simp [Ent.cells, nth] at hp
    | tup l => rw [hx] at hp; simp [Ent.cells, nth] at hp
    | one x =>
      rw [hx] at hp h0
      exact key (cs := [x]) (vs := [_]) ⟨h0, trivial⟩ hp
    | agg cs =>
      rw [hx] at hp h0
      obtain ⟨vs, _, e2⟩ := h0
      exact key e2 hp
  | box i j =>
    simp only [St.at] at hp ⊢
    split at hp
    · rename_i cs hb
      obtain ⟨g, q, vs, h1, h2, h3, h4⟩ := h.boxAt (show st.box i = some cs by simp [St.box, hb])
      exact key h3 hp
    · exact absurd rfl hp

theorem St.ob_addOb {o : Ob} {i : Nat} (h : i < st.objs.length) : (st.addOb o).ob i = st.ob i := by
  simp only [St.ob, St.addOb, nth_eq]
  rw [List.getElem?_append_left h]
theorem St.ob_lt {i : Nat} (h : st.ob i ≠ .dead) : i < st.objs.length := (List.getElem?_eq_some_iff.1 (St.ob_some h)).1

theorem St.at_addOb {o : Ob} {p : Pos} (h : st.at p ≠ .undef) : (st.addOb o).at p = st.at p := by
  cases p with
  | slot d j => rfl
  | box i j =>
    simp only [St.at] at h ⊢
    rw [St.ob_addOb]
    refine St.ob_lt fun hd => ?_
    rw [hd] at h
    exact h rfl

theorem St.at_kill {i : Nat} {p : Pos} {e : Nat} {t : Ty} {xs : List t.den} (hi : st.ob i = .row e t xs) : (st.setOb i .dead).at p = st.at p := by
  cases p with
  | slot d j => rfl
  | box k j =>
    simp only [St.at, St.ob, St.setOb, nth_eq, setNth_eq]
    by_cases hk : i = k
    · subst hk
      have hi' : st.objs[i]?.getD .dead = .row e t xs := by rw [← nth_eq]; exact hi
      have hlt := St.ob_lt (i := i) (by rw [hi]; simp)
      rw [List.getElem?_set_self hlt, hi']
      rfl
    · rw [List.getElem?_set_ne hk]

theorem isWin_one {v u u' : Value} {sz hi : Nat} (h : isWin v sz 0 hi u) (h' : isWin v sz 0 hi u') : u' = u := by
  rcases h with ⟨h1, h2, _, h4⟩ | ⟨g, n, c, h1, h2, h3, h4, h5⟩
  · rcases h' with ⟨_, k2, _⟩ | ⟨g, n, c, k1, _⟩
    · rw [h2, k2]
    · rw [h1] at k1; simp at k1
  · rcases h' with ⟨k1, _⟩ | ⟨g', n', c', k1, k2, k3, k4, k5⟩
    · rw [h1] at k1; simp at k1
    · rw [h1] at k1
      simp only [Value.slice.injEq, Option.some.injEq, Addr.mk.injEq] at k1
      obtain ⟨⟨rfl, _⟩, rfl, rfl⟩ := k1
      rw [h5, k5]

theorem Sit.obey (h : Sit S st a w Z L) (c : Cmd) : ∃ Z' L', Sit S (st.obey c) a w Z' L' := by
  cases c with
  | share i =>
    obtain ⟨Z', _, h', _⟩ := h.share i
    exact ⟨Z', L, h'⟩
  | nilrow p e t =>
    simp only [St.obey]
    split
    · rename_i hp hb
      have hpos : 0 < t.size := Nat.le_of_ble_eq_true hb
      have h' := h.add (o := .row e t []) (l := .row (.slice none 0 0) t.size 0) (Keeps.refl w _)
        ⟨.slice none 0 0, [], rfl, hpos, ⟨by simp, .inl ⟨rfl, rfl⟩⟩, fun i x hi => by simp at hi⟩ (fun b q hq => by simp [foot, Value.ownBlock] at hq)
      refine ⟨Z, _, h'.setAt fun v hv => ?_⟩
      rw [St.at_addOb (by rw [hp]; simp), hp] at hv
      have hv' : v = .slice none 0 0 := hv
      exact ⟨⟨_, _, _, hv'⟩, t.size, 0, by rw [hv']; exact h.newAt _⟩
    · exact ⟨Z, L, h⟩
  | trim p =>
    simp only [St.obey]
    split
    · rename_i i hi hp
      split
      · rename_i e t xs hob
        obtain ⟨v, es, h1, hl, h2, h3, h4⟩ := h.row hob
        obtain ⟨u, hu⟩ := h.at (p := p) (by rw [hp]; simp)
        rw [hp] at hu
        obtain ⟨v', sz, n, hl', hw⟩ := hu
        rw [hl] at hl'
        simp only [Option.some.injEq, Loc.row.injEq] at hl'
        obtain ⟨rfl, rfl, rfl⟩ := hl'
        obtain ⟨o1, o2, o3⟩ := ownsRow_take h3 hw
        have hlen : (xs.take hi).length = hi := by rw [List.length_take]; omega
        have h' := h.turn (o' := .row e t (xs.take hi)) (l' := .row u t.size hi) h1 hl (Keeps.refl _ _)
          ⟨u, es.take (hi * t.size), by rw [hlen], h2, by rw [hlen]; exact o1, h4.take h3.1 o3⟩ (fun b q hq => .inr (by
            simp only [foot] at hq ⊢
            rw [← o2]; exact hq))
        refine ⟨Z, _, h'.setAt fun v2 hv => ?_⟩
        have hat := St.at_kill (p := p) hob
        rw [St.at_addOb (by rw [hat, hp]; simp), hat, hp] at hv
        obtain ⟨u2, sz2, n2, k1, k2⟩ := hv
        rw [Grows.append _ _ _ _ hl] at k1
        simp only [Option.some.injEq, Loc.row.injEq] at k1
        obtain ⟨rfl, rfl, rfl⟩ := k1
        have := isWin_one hw k2
        subst this
        exact ⟨ownsRow_slice o1, t.size, hi, h.newAt _⟩
      · exact ⟨Z, L, h⟩
    · exact ⟨Z, L, h⟩
  | towin p =>
    simp only [St.obey]
    split
    · rename_i i hp
      split
      · rename_i e t xs hob
        obtain ⟨v, es, h1, hl, h2, h3, h4⟩ := h.row hob
        refine ⟨Z, L, h.setAt fun v2 hv => ?_⟩
        rw [hp] at hv
        obtain ⟨_, sz, n, k1⟩ := hv
        rw [hl] at k1
        simp only [Option.some.injEq, Loc.row.injEq] at k1
        obtain ⟨rfl, rfl, rfl⟩ := k1
        exact ⟨v, t.size, xs.length, hl, isWin_all h3⟩
      · exact ⟨Z, L, h⟩
    · exact ⟨Z, L, h⟩

theorem Sit.obeys : ∀ (cs : List Cmd) {st : St} {Z : Nat → Prop} {L : List Loc}, Sit S st a w Z L → ∃ Z' L', Sit S (st.obeys cs) a w Z' L'
  | [], _, Z, L, h => ⟨Z, L, h⟩
  | c :: cs, _, _, _, h => by
    obtain ⟨Z1, L1, h1⟩ := h.obey c
    exact Sit.obeys cs h1
end
end Go.Ry
