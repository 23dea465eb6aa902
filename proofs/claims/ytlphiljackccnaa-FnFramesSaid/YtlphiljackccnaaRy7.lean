/- The evaluator is right: objects come, change, are shared. No condition. -/
import Derived.Test.YtlphiljackccnaaRy6
set_option linter.unusedVariables false
set_option linter.unusedSimpArgs false
namespace Go.Ry

theorem Keeps.trans' {a b c : World} {F G : Nat → Nat → Prop} (h : Keeps a F b) (k : Keeps b G c) (hg : ∀ i o, i < a.heap.size → G i o → F i o) : Keeps a F c := by
  refine ⟨k.os.trans h.os, k.tape.trans h.tape, k.output.trans h.output, Nat.le_trans h.size k.size, fun i hi => ?_⟩
  rcases k.block i (Nat.lt_of_lt_of_le hi h.size) with k1 | ⟨x, x', e, z, k1, k2, k3, k4⟩
  · rcases h.block i hi with h1 | ⟨y, y', e', z', h1, h2, h3, h4⟩
    · exact .inl (k1.trans h1)
    · exact .inr ⟨y, y', e', z', h1, k1.trans h2, h3, h4⟩
  · rcases h.block i hi with h1 | ⟨y, y', e', z', h1, h2, h3, h4⟩
    · exact .inr ⟨x, x', e, z, h1 ▸ k1, k2, k3, fun o ho => k4 o fun hx => ho (hg i o hi hx)⟩
    · rw [k1] at h2
      simp only [Option.some.injEq, Obj.cells.injEq] at h2
      obtain ⟨rfl, rfl, rfl⟩ := h2
      exact .inr ⟨y, x', _, _, h1, k2, k3.trans h3, fun o ho => (k4 o fun hx => ho (hg i o hi hx)).trans (h4 o ho)⟩

section
variable {S : Start} {st : St} {a : Act} {w w' : World} {Z Z' : Nat → Prop} {L L' : List Loc}

theorem Sit.zsame (h : Sit S st a w Z L) {F : Nat → Nat → Prop} (hk : Keeps w F w') (hfz : ∀ b q, F b q → Z b → False) : ∀ b, Z b → w'.heap[b]? = w.heap[b]? :=
  fun b hb => hk.same (h.sims.zin b hb) fun o ho => hfz b o ho hb

theorem Sit.update {os' : List Ob} (h : Sit S st a w Z L) (F : Nat → Nat → Prop) (D : Nat → Prop)
    (hk : Keeps w F w') (hfz : ∀ b q, F b q → Z b → False) (hz : ∀ b, Z b → Z' b) (hl : Grows L L') (hlen : L'.length = os'.length)
    (hold : ∀ i : Nat, ¬ D i → i < os'.length → os'[i]? = st.objs[i]?)
    (hF : ∀ (i : Nat) (o : Ob) (l : Loc), ¬ D i → st.objs[i]? = some o → L[i]? = some l → ∀ b q, foot o l b q → ¬ F b q)
    (hD : ∀ (i : Nat) (o : Ob) (l : Loc), D i → os'[i]? = some o → L'[i]? = some l → OSim w' Z' L' o l)
    (hDf : ∀ (i : Nat) (o : Ob) (l : Loc), D i → os'[i]? = some o → L'[i]? = some l → ∀ b q, foot o l b q → w.heap.size ≤ b ∨ F b q)
    (hDs : ∀ (i j : Nat) (o : Ob) (l : Loc) (o' : Ob) (l' : Loc), D i → D j → os'[i]? = some o → L'[i]? = some l → os'[j]? = some o' → L'[j]? = some l' → i ≠ j → ∀ b q, foot o l b q → foot o' l' b q → False)
    (hDz : ∀ (i : Nat) (o : Ob) (l : Loc), D i → os'[i]? = some o → L'[i]? = some l → ∀ b q, foot o l b q → Z' b → False)
    (hZ : ∀ b, Z' b → Z b ∨ (w.heap.size ≤ b ∧ b < w'.heap.size) ∨ ∀ q, F b q)
    (hZin : ∀ b, Z' b → b < w'.heap.size)
    (hFS : ∀ b q, F b q → S.W.heap.size ≤ b ∨ S.F b q) : Sit S ⟨st.tmps, os'⟩ a w' Z' L' := by
  refine ⟨h.tlen, fun d e he => ESim.mono (h.zsame hk hfz) hz hl (h.tmps d e he), h.sims.update F D hk hfz hz hl hlen hold hF hD hDf hDs hDz hZ hZin, ?_, fun b hb => hz b (h.zup b hb), ?_, ?_, h.lents.trans hl, h.defers⟩
  · exact h.keeps.trans' hk fun i o hi hf => (hFS i o hf).resolve_left (by omega)
  · intro b hb
    rcases hZ b hb with h1 | h1 | h1
    · exact h.znew b h1
    · exact .inr (.inl (Nat.le_trans h.keeps.size h1.1))
    · by_cases hbS : S.W.heap.size ≤ b
      · exact .inr (.inl hbS)
      · exact .inr (.inr fun q => (hFS b q (h1 q)).resolve_left hbS)
  · intro i o l ho hl' b q hf
    by_cases hi : D i
    · rcases hDf i o l hi ho hl' b q hf with h1 | h1
      · exact .inl (Nat.le_trans h.keeps.size h1)
      · exact hFS b q h1
    · have hil := (List.getElem?_eq_some_iff.1 ho).1
      have ho' := (hold i hi hil) ▸ ho
      have hiL : i < L.length := by rw [h.sims.len]; exact (List.getElem?_eq_some_iff.1 ho').1
      have hLi := List.getElem?_eq_getElem hiL
      have := hl i _ hLi
      rw [hl'] at this
      simp only [Option.some.injEq] at this
      exact h.fnew i o l ho' (this ▸ hLi) b q hf

/-- A new object. -/
theorem Sit.add (h : Sit S st a w Z L) {o : Ob} {l : Loc} (hk : Keeps w (fun _ _ => False) w') (ho : OSim w' Z (L ++ [l]) o l)
    (hf : ∀ b q, foot o l b q → w.heap.size ≤ b) : Sit S (st.addOb o) a w' Z (L ++ [l]) := by
  have hlen := h.sims.len
  have new : ∀ (i : Nat) (o' : Ob) (l' : Loc), ¬ i < st.objs.length → (st.objs ++ [o])[i]? = some o' → (L ++ [l])[i]? = some l' → i = st.objs.length ∧ o' = o ∧ l' = l := by
    intro i o' l' hi h1 h2
    have hi' : i = st.objs.length := by
      have := (List.getElem?_eq_some_iff.1 h1).1
      simp at this; omega
    subst hi'
    rw [List.getElem?_append_right (Nat.le_refl _)] at h1
    rw [← hlen, List.getElem?_append_right (Nat.le_refl _)] at h2
    simp at h1 h2
    exact ⟨rfl, h1.symm, h2.symm⟩
  refine h.update (fun _ _ => False) (fun i => ¬ i < st.objs.length) hk (fun _ _ hx => hx.elim) (fun _ hb => hb) (Grows.append _ _) (by simp [hlen]) ?_ ?_ ?_ ?_ ?_ ?_ ?_ ?_ ?_
  · intro i hi _
    rw [List.getElem?_append_left (by omega)]
  · intro i o' l' _ _ _ b q _ hx
    exact hx
  · intro i o' l' hi h1 h2
    obtain ⟨_, rfl, rfl⟩ := new i o' l' hi h1 h2
    exact ho
  · intro i o' l' hi h1 h2 b q hq
    obtain ⟨_, rfl, rfl⟩ := new i o' l' hi h1 h2
    exact .inl (hf b q hq)
  · intro i j o1 l1 o2 l2 hi hj h1 h2 h3 h4 hij
    have a1 := (new i o1 l1 hi h1 h2).1
    have a2 := (new j o2 l2 hj h3 h4).1
    omega
  · intro i o' l' hi h1 h2 b q hq hb
    obtain ⟨_, rfl, rfl⟩ := new i o' l' hi h1 h2
    have := hf b q hq
    have := h.sims.zin b hb
    omega
  · exact fun b hb => .inl hb
  · exact fun b hb => Nat.lt_of_lt_of_le (h.sims.zin b hb) hk.size
  · exact fun b q hx => hx.elim

/-- An object changes where it stands. -/
theorem Sit.set (h : Sit S st a w Z L) {i : Nat} {o o' : Ob} {l : Loc} (hio : st.objs[i]? = some o) (hil : L[i]? = some l) (hk : Keeps w (foot o l) w')
    (ho : OSim w' Z L o' l) (hf : ∀ b q, foot o' l b q → foot o l b q) : Sit S (st.setOb i o') a w' Z L := by
  have hlt := (List.getElem?_eq_some_iff.1 hio).1
  have at_ : ∀ (o'' : Ob) (l' : Loc), (st.objs.set i o')[i]? = some o'' → L[i]? = some l' → o'' = o' ∧ l' = l := by
    intro o'' l' h1 h2
    rw [List.getElem?_set_self hlt] at h1
    rw [hil] at h2
    simp only [Option.some.injEq] at h1 h2
    exact ⟨h1.symm, h2.symm⟩
  unfold St.setOb
  rw [setNth_eq]
  refine h.update (foot o l) (fun j => j = i) hk (fun b q hx hz => h.sims.zap i o l hio hil b q hx hz) (fun _ hb => hb) (Grows.refl _) (by simp [h.sims.len]) ?_ ?_ ?_ ?_ ?_ ?_ ?_ ?_ ?_
  · intro j hj _
    rw [List.getElem?_set_ne (by omega)]
  · intro j o1 l1 hj h1 h2 b q hq hx
    exact h.sims.sep j i o1 l1 o l h1 h2 hio hil hj b q hq hx
  · rintro j o1 l1 rfl h1 h2
    obtain ⟨rfl, rfl⟩ := at_ o1 l1 h1 h2
    exact ho
  · rintro j o1 l1 rfl h1 h2 b q hq
    obtain ⟨rfl, rfl⟩ := at_ o1 l1 h1 h2
    exact .inr (hf b q hq)
  · rintro j k o1 l1 o2 l2 rfl rfl h1 h2 h3 h4 hij
    exact absurd rfl hij
  · rintro j o1 l1 rfl h1 h2 b q hq hz
    obtain ⟨rfl, rfl⟩ := at_ o1 l1 h1 h2
    exact h.sims.zap j o l1 hio hil b q (hf b q hq) hz
  · exact fun b hb => .inl hb
  · exact fun b hb => Nat.lt_of_lt_of_le (h.sims.zin b hb) hk.size
  · exact fun b q hx => h.fnew i o l hio hil b q hx

/-- An object dies, and a new one takes its memory or new memory. -/
theorem Sit.turn (h : Sit S st a w Z L) {i : Nat} {o o' : Ob} {l l' : Loc} (hio : st.objs[i]? = some o) (hil : L[i]? = some l) (hk : Keeps w (foot o l) w')
    (ho : OSim w' Z (L ++ [l']) o' l') (hf : ∀ b q, foot o' l' b q → w.heap.size ≤ b ∨ foot o l b q) : Sit S ((st.setOb i .dead).addOb o') a w' Z (L ++ [l']) := by
  have hlt := (List.getElem?_eq_some_iff.1 hio).1
  have hlen := h.sims.len
  have hL : (L ++ [l'])[i]? = some l := Grows.append _ _ i l hil
  unfold St.setOb St.addOb
  rw [setNth_eq]
  have cases_ : ∀ (j : Nat) (o1 : Ob) (l1 : Loc), (j = i ∨ ¬ j < st.objs.length) → (st.objs.set i .dead ++ [o'])[j]? = some o1 → (L ++ [l'])[j]? = some l1 →
      (j = i ∧ o1 = .dead ∧ l1 = l) ∨ (j = st.objs.length ∧ o1 = o' ∧ l1 = l') := by
    intro j o1 l1 hj h1 h2
    rcases hj with rfl | hj
    · rw [List.getElem?_append_left (by simpa using hlt), List.getElem?_set_self hlt] at h1
      rw [hL] at h2
      simp only [Option.some.injEq] at h1 h2
      exact .inl ⟨rfl, h1.symm, h2.symm⟩
    · have hj' : j = st.objs.length := by
        have := (List.getElem?_eq_some_iff.1 h1).1
        simp at this; omega
      subst hj'
      rw [List.getElem?_append_right (by simp)] at h1
      rw [← hlen, List.getElem?_append_right (Nat.le_refl _)] at h2
      simp at h1 h2
      exact .inr ⟨rfl, h1.symm, h2.symm⟩
  refine h.update (foot o l) (fun j => j = i ∨ ¬ j < st.objs.length) hk (fun b q hx hz => h.sims.zap i o l hio hil b q hx hz) (fun _ hb => hb) (Grows.append _ _) (by simp [hlen]) ?_ ?_ ?_ ?_ ?_ ?_ ?_ ?_ ?_
  · intro j hj hjl
    have hj1 : j ≠ i := fun e => hj (.inl e)
    have hj2 : j < st.objs.length := by
      rcases Nat.lt_or_ge j st.objs.length with hx | hx
      · exact hx
      · exact absurd (.inr (by omega)) hj
    rw [List.getElem?_append_left (by simpa using hj2), List.getElem?_set_ne (by omega)]
  · intro j o1 l1 hj h1 h2 b q hq hx
    exact h.sims.sep j i o1 l1 o l h1 h2 hio hil (fun e => hj (.inl e)) b q hq hx
  · intro j o1 l1 hj h1 h2
    rcases cases_ j o1 l1 hj h1 h2 with ⟨_, rfl, rfl⟩ | ⟨_, rfl, rfl⟩
    · trivial
    · exact ho
  · intro j o1 l1 hj h1 h2 b q hq
    rcases cases_ j o1 l1 hj h1 h2 with ⟨_, rfl, rfl⟩ | ⟨_, rfl, rfl⟩
    · exact hq.elim
    · exact hf b q hq
  · intro j k o1 l1 o2 l2 hj hk' h1 h2 h3 h4 hjk b q f1 f2
    rcases cases_ j o1 l1 hj h1 h2 with ⟨_, rfl, rfl⟩ | ⟨hj1, rfl, rfl⟩
    · exact f1.elim
    · rcases cases_ k o2 l2 hk' h3 h4 with ⟨_, rfl, rfl⟩ | ⟨hk1, rfl, rfl⟩
      · exact f2.elim
      · omega
  · intro j o1 l1 hj h1 h2 b q hq hz
    rcases cases_ j o1 l1 hj h1 h2 with ⟨_, rfl, rfl⟩ | ⟨_, rfl, rfl⟩
    · exact hq.elim
    · rcases hf b q hq with hx | hx
      · have := h.sims.zin b hz
        omega
      · exact h.sims.zap i o l hio hil b q hx hz
  · exact fun b hb => .inl hb
  · exact fun b hb => Nat.lt_of_lt_of_le (h.sims.zin b hb) hk.size
  · exact fun b q hx => h.fnew i o l hio hil b q hx

theorem St.ob_some {i : Nat} (h : st.ob i ≠ .dead) : st.objs[i]? = some (st.ob i) := by
  unfold St.ob at h ⊢
  rw [nth_eq] at h ⊢
  cases hi : st.objs[i]? with
  | none => rw [hi] at h; exact absurd rfl h
  | some o => rfl

theorem Sit.loc (h : Sit S st a w Z L) {i : Nat} {o : Ob} (hi : st.objs[i]? = some o) : ∃ l, L[i]? = some l ∧ OSim w Z L o l := by
  have hlt : i < L.length := by rw [h.sims.len]; exact (List.getElem?_eq_some_iff.1 hi).1
  exact ⟨L[i], List.getElem?_eq_getElem hlt, h.sims.ob i o _ hi (List.getElem?_eq_getElem hlt)⟩

theorem Sit.row (h : Sit S st a w Z L) {i e : Nat} {t : Ty} {xs : List t.den} (hi : st.ob i = .row e t xs) :
    ∃ v es, st.objs[i]? = some (.row e t xs) ∧ L[i]? = some (.row v t.size xs.length) ∧ 0 < t.size ∧ w.ownsRow 0 e t.size v xs.length es ∧ RowRd w Z t xs es := by
  have h1 : st.objs[i]? = some (.row e t xs) := hi ▸ St.ob_some (by rw [hi]; simp)
  obtain ⟨l, hl, v, es, rfl, h2⟩ := h.loc h1
  exact ⟨v, es, h1, hl, h2⟩

theorem Sit.boxAt (h : Sit S st a w Z L) {i : Nat} {cs : List Cell} (hi : st.box i = some cs) :
    ∃ g q vs, st.objs[i]? = some (.box cs) ∧ L[i]? = some (.box g q) ∧ CsSim w Z L cs vs ∧ BoxAt w g q vs := by
  unfold St.box at hi
  split at hi
  · rename_i cs' hb
    simp only [Option.some.injEq] at hi
    subst hi
    have h1 : st.objs[i]? = some (.box cs') := hb ▸ St.ob_some (by rw [hb]; simp)
    obtain ⟨l, hl, g, q, vs, rfl, h2⟩ := h.loc h1
    exact ⟨g, q, vs, h1, hl, h2⟩
  · simp at hi

theorem BoxAt.cells {g q : Nat} {vs : List Value} (h : BoxAt w g q vs) : CellsAt w g q vs := by
  obtain ⟨cur, e, h1, h2, h3⟩ := h
  intro j u hj
  rw [cell_of_row w g (q + j) cur e (0, 0) h1]
  exact h3 j u hj

theorem CellsAt.drop {g q n : Nat} {vs : List Value} (h : CellsAt w g q vs) : CellsAt w g (q + n) (vs.drop n) := by
  intro j u hj
  rw [List.getElem?_drop] at hj
  have := h (n + j) u hj
  rwa [← Nat.add_assoc] at this

/-- What is behind a pointer. -/
theorem Sit.behind (h : Sit S st a w Z L) {c : Cell} {v : Value} {cs : List Cell} (hc : CSim w Z L c v) (hb : st.behind c = some cs) :
    ∃ g q vs, v = .pointer (some ⟨g, q, none⟩) ∧ CsSim w Z L cs vs ∧ CellsAt w g q vs := by
  unfold St.behind at hb
  split at hb
  · rename_i i o
    obtain ⟨g, q, hl, rfl⟩ := hc
    cases hbx : st.box i with
    | none => rw [hbx] at hb; simp at hb
    | some cs0 =>
      rw [hbx] at hb
      simp only [Option.map_some, Option.some.injEq] at hb
      subst hb
      obtain ⟨g', q', vs, _, h2, h3, h4⟩ := h.boxAt hbx
      rw [hl] at h2
      simp only [Option.some.injEq, Loc.box.injEq] at h2
      obtain ⟨rfl, rfl⟩ := h2
      exact ⟨g, q + o, vs.drop o, rfl, CsSim.drop h3, h4.cells.drop⟩
  · rename_i i k o
    obtain ⟨g, n, c, sz, m, hl, hk, rfl⟩ := hc
    split at hb
    · rename_i e u xs hob
      simp only [Option.some.injEq] at hb
      subst hb
      obtain ⟨v, es, _, h2, h3, h4, h5⟩ := h.row hob
      rw [hl] at h2
      simp only [Option.some.injEq, Loc.row.injEq] at h2
      obtain ⟨rfl, rfl, rfl⟩ := h2
      rcases h4.2 with ⟨hx, _⟩ | ⟨g', cap, cur, hx, _, hg, hn, _, hcs, htk⟩
      · simp at hx
      · simp only [Value.slice.injEq, Option.some.injEq, Addr.mk.injEq, and_true] at hx
        obtain ⟨rfl, rfl, rfl⟩ := hx
        have hkx : xs[k]? = some (xs.getD k u.dflt) := by simp [List.getD, List.getElem?_eq_getElem hk]
        have hr := h5 k _ hkx
        refine ⟨g, k * u.size + o, _, rfl, CsSim.drop (n := o) (Rd.cells hr), CellsAt.drop (q := k * u.size) ?_⟩
        intro j x hj
        rw [List.getElem?_take] at hj
        split at hj
        · rw [List.getElem?_drop] at hj
          have := h4.cells (g := g) rfl (k * u.size + j) x hj
          rwa [Addr.add_lit, Nat.zero_add] at this
        · simp at hj
    · simp at hb
  · rename_i t x o
    obtain ⟨g, q, es, rfl, _, h2, h3⟩ := hc
    simp only [Option.some.injEq] at hb
    subst hb
    exact ⟨g, q + o, es.drop o, rfl, CsSim.drop (Rd.cells h3), h2.drop⟩
  · simp at hb
end
end Go.Ry
