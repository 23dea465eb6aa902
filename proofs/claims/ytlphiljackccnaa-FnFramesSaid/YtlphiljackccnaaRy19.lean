/- The evaluator is right: calls (3): what comes back. No condition. -/
import Derived.Test.YtlphiljackccnaaRy18
set_option linter.unusedVariables false
set_option linter.unusedSimpArgs false
namespace Go.Ry

section
variable {S : Start} {st : St} {a : Act} {w w' : World} {Z Z' : Nat → Prop} {L L' : List Loc}

/-- The caller takes back what it has lent, and what was made. -/
theorem back_sit {M : List Nat} {extra : Nat → Prop} {os nw : List Ob} {r : Ent} {v : Value} (hs : Sit S st a w Z L) (hn : M.Nodup) (hM : ∀ i ∈ M, i < st.objs.length)
    (hlen : os.length = M.length) (hflat : (∀ b, ¬ extra b) ∨ (r.flat = true ∧ (os ++ nw).all Ob.flat = true))
    (h1 : Sims w' Z' L' (os ++ nw)) (h2 : ESim w' Z' L' r v) (h3 : Grows (locs L M) L') (h4 : Keeps w (feet (lent st M) (locs L M)) w') (h5 : ∀ b, Z b ∨ extra b → Z' b)
    (h6 : ∀ b, Z' b → (Z b ∨ extra b) ∨ w.heap.size ≤ b ∨ ∀ q, feet (lent st M) (locs L M) b q)
    (h7 : ∀ (i : Nat) (o : Ob) (l : Loc), (os ++ nw)[i]? = some o → L'[i]? = some l → ∀ b q, foot o l b q → w.heap.size ≤ b ∨ feet (lent st M) (locs L M) b q) :
    ∃ Z2 L2, Sit S (backTo (nth (M ++ rangeN nw.length st.objs.length)) ⟨st.tmps, st.objs ++ nw.map (mapO (renC (nth (M ++ rangeN nw.length st.objs.length))))⟩ M os) a w' Z2 L2 ∧
      ESim w' Z2 L2 (mapE (renC (nth (M ++ rangeN nw.length st.objs.length))) r) v ∧ Grows L L2 := by
  let N := M ++ rangeN nw.length st.objs.length
  let f := nth N
  let L2 := L ++ L'.drop M.length
  let Z2 : Nat → Prop := fun b => Z' b ∧ (extra b → Z b)
  have hL : L.length = st.objs.length := hs.sims.len
  have hL' : L'.length = M.length + nw.length := by rw [h1.len, List.length_append, hlen]
  have hN : ∀ k, N[k]? = if k < M.length then M[k]? else if k < M.length + nw.length then some (st.objs.length + (k - M.length)) else none := by
    intro k
    by_cases hk : k < M.length
    · rw [if_pos hk, List.getElem?_append_left hk]
    · rw [if_neg hk, List.getElem?_append_right (by omega), rangeN_get]
      by_cases hk2 : k < M.length + nw.length
      · rw [if_pos (by omega), if_pos hk2]
      · rw [if_neg (by omega), if_neg hk2]
  -- a number of the callee's and one of the caller's lie at the same place
  have hf : ∀ k i l, f k = some i → L'[k]? = some l → L2[i]? = some l := by
    intro k i l hk hl
    have hk' : N[k]? = some i := by rw [← nth_eq]; exact hk
    rw [hN] at hk'
    split at hk'
    · rename_i hkl
      have hi := hM i (List.mem_of_getElem? hk')
      obtain ⟨l', hl', _⟩ := hs.loc (St.ob_get hi)
      have := h3 k l' (locs_get hk' hl')
      rw [hl] at this
      simp only [Option.some.injEq] at this
      subst this
      exact Grows.append _ _ _ _ hl'
    · split at hk'
      · simp only [Option.some.injEq] at hk'
        subst hk'
        show (L ++ L'.drop M.length)[st.objs.length + (k - M.length)]? = some l
        rw [List.getElem?_append_right (by omega), List.getElem?_drop, ← hl]
        congr 1
        omega
      · simp at hk'
  have hM0 : ∀ i ∈ M, i < (st.objs ++ nw.map (mapO (renC f))).length := fun i hi => by
    have := hM i hi
    simp only [List.length_append]; omega
  obtain ⟨b1, b2, b3, b4⟩ := backTo_spec f (M := M) (os := os) (st := ⟨st.tmps, st.objs ++ nw.map (mapO (renC f))⟩) hn hlen hM0
  let os2 := (backTo f ⟨st.tmps, st.objs ++ nw.map (mapO (renC f))⟩ M os).objs
  have hos2len : os2.length = st.objs.length + nw.length := by rw [show os2.length = _ from b2]; simp
  let D : Nat → Prop := fun i => i ∈ M ∨ st.objs.length ≤ i
  -- what has changed comes from the callee
  have from_ : ∀ (i : Nat) (o : Ob) (l : Loc), D i → os2[i]? = some o → L2[i]? = some l → ∃ (k : Nat) (o' : Ob), f k = some i ∧ (os ++ nw)[k]? = some o' ∧ o = mapO (renC f) o' ∧ L'[k]? = some l := by
    intro i o l hi ho hl
    by_cases him : i ∈ M
    · obtain ⟨k, hk⟩ := List.getElem?_of_mem him
      have hkl := (List.getElem?_eq_some_iff.1 hk).1
      have hko : os[k]? = some os[k] := List.getElem?_eq_getElem (by omega)
      have := b3 k i _ hk hko
      have ho' : os2[i]? = some (mapO (renC f) os[k]) := this
      rw [ho] at ho'
      simp only [Option.some.injEq] at ho'
      have hlk : L'[k]? = some L'[k] := List.getElem?_eq_getElem (by omega)
      have hfk : f k = some i := by
        show nth N k = some i
        rw [nth_eq, hN, if_pos hkl]; exact hk
      have := hf k i _ hfk hlk
      rw [hl] at this
      simp only [Option.some.injEq] at this
      exact ⟨k, os[k], hfk, by rw [List.getElem?_append_left (by omega)]; exact hko, ho', by rw [this]; exact hlk⟩
    · have hige : st.objs.length ≤ i := hi.resolve_left him
      have ho2 : os2[i]? = (st.objs ++ nw.map (mapO (renC f)))[i]? := b4 i him
      rw [ho, List.getElem?_append_right hige, List.getElem?_map] at ho2
      cases hnw : nw[i - st.objs.length]? with
      | none => rw [hnw] at ho2; simp at ho2
      | some o' =>
        rw [hnw] at ho2
        simp only [Option.map_some, Option.some.injEq] at ho2
        have hlt := (List.getElem?_eq_some_iff.1 hnw).1
        let k := M.length + (i - st.objs.length)
        have hfk : f k = some i := by
          show nth N k = some i
          rw [nth_eq, hN, if_neg (by omega), if_pos (by omega)]
          congr 1
          omega
        have hlk : L'[k]? = some L'[k] := List.getElem?_eq_getElem (by omega)
        have := hf k i _ hfk hlk
        rw [hl] at this
        simp only [Option.some.injEq] at this
        refine ⟨k, o', hfk, ?_, ho2, by rw [this]; exact hlk⟩
        rw [List.getElem?_append_right (by omega), ← hnw]
        congr 1
        omega
  have hZ2 : ∀ b, Z b → Z2 b := fun b hb => ⟨h5 b (.inl hb), fun _ => hb⟩
  -- without what was seen for the call alone
  have toO : ∀ (k : Nat) (o' : Ob) (l : Loc), (os ++ nw)[k]? = some o' → L'[k]? = some l → OSim w' Z2 L2 (mapO (renC f) o') l := by
    intro k o' l ho hl
    have ho1 := h1.ob k o' l ho hl
    have ho2 : OSim w' Z2 L' o' l := by
      rcases hflat with hx | ⟨_, hx⟩
      · have : OSim w' Z2 L' (mapO id o') l := OSim.map' (f := id) (fun c v hc => CSim.mono (fun _ _ => rfl) (fun b hb => ⟨hb, fun e => absurd e (hx b)⟩) (Grows.refl _) hc) (fun b hb => ⟨hb, fun e => absurd e (hx b)⟩) ho1
        have e : mapO id o' = o' := by cases o' <;> simp [mapO]
        rwa [e] at this
      · exact OSim.flat (List.all_eq_true.1 hx o' (List.mem_of_getElem? ho)) ho1
    exact OSim.map' (renC_sim hf) (fun _ hb => hb) ho2
  have toE : ESim w' Z2 L2 (mapE (renC f) r) v := by
    have he : ESim w' Z2 L' r v := by
      rcases hflat with hx | ⟨hx, _⟩
      · exact ESim.mono (fun _ _ => rfl) (fun b hb => ⟨hb, fun e => absurd e (hx b)⟩) (Grows.refl _) h2
      · exact ESim.flat hx h2
    exact ESim.map (renC_sim hf) he
  have foot2 : ∀ (o' : Ob) (l : Loc), foot (mapO (renC f) o') l = foot o' l := foot_map _
  have key : Sit S ⟨st.tmps, os2⟩ a w' Z2 L2 := by
    refine hs.update (feet (lent st M) (locs L M)) D h4 (fun b q hb hz => ?_) hZ2 (Grows.append _ _) ?_ ?_ ?_ ?_ ?_ ?_ ?_ ?_ ?_ ?_
    · obtain ⟨i, _, o, l, a1, a2, a3⟩ := feet_lent hs hM hb
      exact hs.sims.zap i o l a1 a2 b q a3 hz
    · rw [hos2len]
      show (L ++ L'.drop M.length).length = _
      rw [List.length_append, List.length_drop, hL, hL']
      omega
    · intro i hi hil
      have him : i ∉ M := fun e => hi (.inl e)
      have hlt : i < st.objs.length := by
        rcases Nat.lt_or_ge i st.objs.length with h | h
        · exact h
        · exact absurd (.inr h) hi
      have : os2[i]? = (st.objs ++ nw.map (mapO (renC f)))[i]? := b4 i him
      rw [this, List.getElem?_append_left hlt]
    · intro i o l hi ho hl b q hq hb
      obtain ⟨j, hj, o', l', a1, a2, a3⟩ := feet_lent hs hM hb
      exact hs.sims.sep i j o l o' l' ho hl a1 a2 (fun e => hi (.inl (e ▸ hj))) b q hq a3
    · intro i o l hi ho hl
      obtain ⟨k, o', _, c2, rfl, c4⟩ := from_ i o l hi ho hl
      exact toO k o' l c2 c4
    · intro i o l hi ho hl b q hq
      obtain ⟨k, o', _, c2, rfl, c4⟩ := from_ i o l hi ho hl
      rw [foot2] at hq
      exact h7 k o' l c2 c4 b q hq
    · intro i j o l o' l' hi hj ho hl ho' hl' hij b q f1 f2
      obtain ⟨k, p, c1, c2, rfl, c4⟩ := from_ i o l hi ho hl
      obtain ⟨k', p', d1, d2, rfl, d4⟩ := from_ j o' l' hj ho' hl'
      rw [foot2] at f1 f2
      refine h1.sep k k' p l p' l' c2 c4 d2 d4 (fun e => ?_) b q f1 f2
      subst e
      rw [c1] at d1
      exact hij (by simpa using d1)
    · intro i o l hi ho hl b q hq hz
      obtain ⟨k, o', _, c2, rfl, c4⟩ := from_ i o l hi ho hl
      rw [foot2] at hq
      exact h1.zap k o' l c2 c4 b q hq hz.1
    · rintro b ⟨hb, he⟩
      rcases h6 b hb with (hz | hx) | hfr | hft
      · exact .inl hz
      · exact .inl (he hx)
      · exact .inr (.inl ⟨hfr, h1.zin b hb⟩)
      · exact .inr (.inr hft)
    · exact fun b hb => h1.zin b hb.1
    · intro b q hb
      obtain ⟨i, _, o, l, a1, a2, a3⟩ := feet_lent hs hM hb
      exact hs.fnew i o l a1 a2 b q a3
  refine ⟨Z2, L2, ?_, toE, Grows.append _ _⟩
  have e : (backTo f ⟨st.tmps, st.objs ++ nw.map (mapO (renC f))⟩ M os) = ⟨st.tmps, os2⟩ := by
    cases hb : backTo f ⟨st.tmps, st.objs ++ nw.map (mapO (renC f))⟩ M os with
    | mk t o =>
      have := b1
      rw [hb] at this
      simp only at this
      subst this
      show _ = St.mk _ (backTo f _ M os).objs
      rw [hb]
  rw [show (backTo (nth (M ++ rangeN nw.length st.objs.length)) _ M os) = _ from e]
  exact key
end
end Go.Ry
