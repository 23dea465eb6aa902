/- The evaluator is right: loads, stores, sharing. No condition. -/
import Derived.Test.YtlphiljackccnaaRy7
set_option linter.unusedVariables false
set_option linter.unusedSimpArgs false
namespace Go.Ry

section
variable {P : Program} {t : TypeId} {te : TE} {i : TypeInfo} {d : TypeDesc} {z : Value}

theorem run_isAgg (f : TEFacts P t te i d z) (w : World) : (isAgg t).run P w = .ok te.agg w := by
  have hk := f.kind
  unfold isAgg
  simp only [Sem.run_bind, run_underlying f.under, Result.andThen_ok]
  cases d <;> simp only [kindOk] at hk <;> split at hk <;> simp_all

theorem run_sizeOf (f : TEFacts P t te i d z) (w : World) : (sizeOf t).run P w = .ok te.size w := by
  simp [sizeOf, typeInfo, f.info, f.size]
end

section
variable {P : Program} {w w' : World} {Z Z' : Nat → Prop} {L L' : List Loc}

theorem run_loadVar_at {t : TypeId} {te : TE} {i : TypeInfo} {d : TypeDesc} {z : Value} (f : TEFacts P t te i d z) {g q : Nat} {cs : List Cell} {vs : List Value}
    (hs : CsSim w Z L cs vs) (hsz : te.size ≤ cs.length) :
    ∃ v, (∀ w', CellsAt w' g q vs → (loadVar t ⟨g, q, none⟩).run P w' = .ok v w') ∧ ESim w Z L (entOf te.agg (cs.take te.size)) v := by
  have hlen := CsSim.length hs
  by_cases ha : te.agg = true
  · refine ⟨.agg (vs.take te.size).toArray, fun w' hc => ?_, ?_⟩
    · have hl := run_loadCells_list (P := P) w' ⟨g, q, none⟩ (vs.take te.size) (fun j v hv => by
        rw [Addr.add_lit]
        rw [List.getElem?_take] at hv
        split at hv
        · exact hc j v hv
        · simp at hv)
      rw [List.length_take, Nat.min_eq_left (by omega)] at hl
      unfold loadVar
      simp only [Sem.run_bind, run_isAgg f, Result.andThen_ok]
      simp [ha, run_sizeOf f, hl]
    · rw [ha]
      exact ⟨_, rfl, by simpa using CsSim.take (n := te.size) hs⟩
  · have h1 : te.size = 1 := f.one.resolve_left ha
    have ha' : te.agg = false := by simpa using ha
    rw [h1] at hsz ⊢
    match cs, vs, hs, hlen with
    | [], _, _, _ => simp at hsz
    | c :: cs, [], h, _ => exact h.elim
    | c :: cs, v :: vs, h, _ =>
      refine ⟨v, fun w' hc => ?_, ?_⟩
      · have h0 := hc 0 v rfl
        simp only [Nat.add_zero] at h0
        unfold loadVar
        simp only [Sem.run_bind, run_isAgg f, Result.andThen_ok]
        simp [ha', h0]
      · simp only [ha', List.take_succ_cons, List.take_zero, entOf]
        exact h.1

theorem splice_get (es us : List Value) (p j : Nat) (hp : p + us.length ≤ es.length) :
    (es.take p ++ us ++ es.drop (p + us.length))[j]? = if p ≤ j ∧ j < p + us.length then us[j - p]? else es[j]? := by
  by_cases h1 : j < p
  · rw [if_neg (by omega), List.append_assoc, List.getElem?_append_left (by simp; omega), List.getElem?_take_of_lt h1]
  · by_cases h2 : j < p + us.length
    · rw [if_pos ⟨by omega, h2⟩, List.append_assoc, List.getElem?_append_right (by simp; omega), List.getElem?_append_left (by simp; omega)]
      simp only [List.length_take]
      rw [Nat.min_eq_left (by omega)]
    · rw [if_neg (by omega), List.getElem?_append_right (by simp; omega), List.getElem?_drop]
      simp only [List.length_append, List.length_take]
      rw [Nat.min_eq_left (by omega)]
      congr 1
      omega

/-- Cells of a row that may be written. -/
theorem run_storeCells_in {g p : Nat} {cur : Array Value} {e : TypeId} (hg : w.heap[g]? = some (.cells cur e (0, 0))) (us : List Value) (hp : p + us.length ≤ cur.size)
    (h1 : ∀ v ∈ us, v.oneCell' = true) : ∃ w' cur', (storeCells ⟨g, p, none⟩ us).run P w = .ok () w' ∧ w'.heap[g]? = some (.cells cur' e (0, 0)) ∧ cur'.size = cur.size ∧
      (∀ j, cur'[j]? = if p ≤ j ∧ j < p + us.length then us[j - p]? else cur[j]?) ∧ Keeps w (fun b o => b = g ∧ p ≤ o ∧ o < p + us.length) w' := by
  have hr := run_storeCells_at P g p e us 0 cur w hg (by simpa using hp) h1
  simp only [Nat.add_zero] at hr
  have hget : ∀ j, (cur.toList.take p ++ us ++ cur.toList.drop (p + us.length)).toArray[j]? = if p ≤ j ∧ j < p + us.length then us[j - p]? else cur[j]? := by
    intro j
    simp only [List.getElem?_toArray]
    rw [splice_get cur.toList us p j (by simpa using hp)]
    simp
  have hsz : (cur.toList.take p ++ us ++ cur.toList.drop (p + us.length)).toArray.size = cur.size := by
    simp only [List.size_toArray, List.length_append, List.length_take, List.length_drop, Array.length_toList]
    omega
  have hh := setRow_heap w g cur (cur.toList.take p ++ us ++ cur.toList.drop (p + us.length)).toArray e (0, 0) hg
  refine ⟨_, _, hr, hh, hsz, hget, ⟨rfl, rfl, rfl, by simp, fun b hb => ?_⟩⟩
  by_cases hbg : b = g
  · subst hbg
    refine .inr ⟨cur, _, e, (0, 0), hg, hh, hsz, fun o ho => ?_⟩
    rw [hget o, if_neg (by omega)]
  · exact .inl (setRow_other w g b _ (by omega))

theorem BoxAt.store {g q o : Nat} {vs us : List Value} (h : BoxAt w g q vs) (hp : o + us.length ≤ vs.length) (h1 : ∀ v ∈ us, v.oneCell' = true) :
    ∃ w', (storeCells ⟨g, q + o, none⟩ us).run P w = .ok () w' ∧ BoxAt w' g q (vs.take o ++ us ++ vs.drop (o + us.length)) ∧
      Keeps w (fun b x => b = g ∧ q ≤ x ∧ x < q + vs.length) w' := by
  obtain ⟨cur, e, hg, hsz, hcs⟩ := h
  obtain ⟨w', cur', hr, hg', hs', hget, hk⟩ := run_storeCells_in (P := P) hg us (p := q + o) (by omega) h1
  refine ⟨w', hr, ⟨cur', e, hg', ?_, fun j v hj => ?_⟩, hk.mono fun b x _ hx => ⟨hx.1, by omega, by omega⟩⟩
  · simp only [List.length_append, List.length_take, List.length_drop]
    omega
  · rw [splice_get vs us o j hp] at hj
    rw [hget]
    split at hj
    · rw [if_pos (by omega)]
      rw [← hj]
      congr 1
      omega
    · rw [if_neg (by omega)]
      exact hcs j v hj

theorem seg_get (es : List Value) (i sz j : Nat) (hj : j < sz) : ((es.drop (i * sz)).take sz)[j]? = es[i * sz + j]? := by
  rw [List.getElem?_take_of_lt hj, List.getElem?_drop]

/-- A store into an owned row: the row afterwards. -/
theorem ownsRow_store {e : TypeId} {sz n c g p : Nat} {es us : List Value} (h : w.ownsRow 0 e sz (.slice (some ⟨g, 0, none⟩) n c) n es) (hp : p + us.length ≤ n * sz)
    (h1 : ∀ v ∈ us, v.oneCell' = true) : ∃ w', (storeCells ⟨g, p, none⟩ us).run P w = .ok () w' ∧
      w'.ownsRow 0 e sz (.slice (some ⟨g, 0, none⟩) n c) n (es.take p ++ us ++ es.drop (p + us.length)) ∧ Keeps w (fun b _ => b = g) w' := by
  obtain ⟨hl, h2⟩ := h
  rcases h2 with ⟨hx, _⟩ | ⟨g', cap, cur, hx, hb, hg, hn, hm, hcs, htk⟩
  · simp at hx
  · simp only [Value.slice.injEq, Option.some.injEq, Addr.mk.injEq, and_true, true_and] at hx
    obtain ⟨rfl, rfl⟩ := hx
    have hle := Nat.mul_le_mul_right sz hn
    obtain ⟨w', cur', hr, hg', hs', hget, hk⟩ := run_storeCells_in (P := P) hg us (p := p) (by omega) h1
    refine ⟨w', hr, ⟨?_, .inr ⟨g, c, cur', rfl, hb, hg', hn, hm, by rw [hs', hcs], ?_⟩⟩, hk.mono fun b x _ hx => hx.1⟩
    · simp only [List.length_append, List.length_take, List.length_drop]; omega
    · apply List.ext_getElem?
      intro j
      rw [splice_get es us p j (by omega), List.getElem?_take]
      have := hget j
      rw [← Array.getElem?_toList] at this
      rw [this]
      rw [← htk]
      by_cases hj : j < n * sz
      · rw [if_pos hj]
        split
        · rfl
        · rw [List.getElem?_take_of_lt hj]; simp
      · rw [if_neg hj, if_neg (by omega), List.getElem?_take_eq_none (by omega)]

theorem RowRd.set {t : Ty} {xs : List t.den} {es us : List Value} {k o : Nat} {x : t.den} (h : RowRd w Z t xs es) (hl : es.length = xs.length * t.size) (hk : k < xs.length)
    (ho : o + us.length ≤ t.size) (hx : Rd w Z t x ((((es.drop (k * t.size)).take t.size).take o) ++ us ++ (((es.drop (k * t.size)).take t.size).drop (o + us.length)))) :
    RowRd w Z t (xs.set k x) (es.take (k * t.size + o) ++ us ++ es.drop (k * t.size + o + us.length)) := by
  have hks := Nat.mul_le_mul_right t.size (show k + 1 ≤ xs.length by omega)
  rw [Nat.add_mul, Nat.one_mul] at hks
  have hseglen : ((es.drop (k * t.size)).take t.size).length = t.size := by simp; omega
  intro i y hi
  have hil : i < xs.length := by have := (List.getElem?_eq_some_iff.1 hi).1; simpa using this
  have his := Nat.mul_le_mul_right t.size (show i + 1 ≤ xs.length by omega)
  rw [Nat.add_mul, Nat.one_mul] at his
  by_cases hik : i = k
  · subst hik
    rw [List.getElem?_set_self hil] at hi
    simp only [Option.some.injEq] at hi
    subst hi
    have : ((es.take (i * t.size + o) ++ us ++ es.drop (i * t.size + o + us.length)).drop (i * t.size)).take t.size =
        (((es.drop (i * t.size)).take t.size).take o) ++ us ++ (((es.drop (i * t.size)).take t.size).drop (o + us.length)) := by
      apply List.ext_getElem?
      intro j
      rw [splice_get _ us o j (by rw [hseglen]; exact ho)]
      by_cases hj : j < t.size
      · rw [seg_get _ _ _ _ hj, splice_get es us _ _ (by omega)]
        split
        · rw [if_pos (by omega)]
          congr 1
          omega
        · rw [if_neg (by omega), seg_get _ _ _ _ hj]
      · rw [List.getElem?_take_eq_none (by omega), if_neg (by omega), List.getElem?_take_eq_none (by omega)]
    rw [this]
    exact hx
  · rw [List.getElem?_set_ne (by omega)] at hi
    have hr := h i y hi
    have : ((es.take (k * t.size + o) ++ us ++ es.drop (k * t.size + o + us.length)).drop (i * t.size)).take t.size = (es.drop (i * t.size)).take t.size := by
      apply List.ext_getElem?
      intro j
      by_cases hj : j < t.size
      · rw [seg_get _ _ _ _ hj, seg_get _ _ _ _ hj, splice_get es us _ _ (by omega), if_neg]
        intro hc
        rcases Nat.lt_or_gt_of_ne hik with hlt | hgt
        · have := Nat.mul_le_mul_right t.size (show i + 1 ≤ k by omega)
          rw [Nat.add_mul, Nat.one_mul] at this
          omega
        · have := Nat.mul_le_mul_right t.size (show k + 1 ≤ i by omega)
          rw [Nat.add_mul, Nat.one_mul] at this
          omega
      · rw [List.getElem?_take_eq_none (by omega), List.getElem?_take_eq_none (by omega)]
    rw [this]
    exact hr

/-- A part of an owned row, once that is shared. -/
theorem row_sl {e : TypeId} {tt : Ty} {v u : Value} {xs : List tt.den} {es : List Value} {lo hi : Nat} (ho : w.ownsRow 0 e tt.size v xs.length es) (hr : RowRd w Z tt xs es)
    (hz : ∀ b, v.ownBlock = some b → Z b) (hw : isWin v tt.size lo hi u) : Rd w Z (.slice tt) ((xs.take hi).drop lo) [u] := by
  rcases hw with ⟨rfl, rfl, rfl, rfl⟩ | ⟨g, n, c, rfl, h1, h2, h3, rfl⟩
  · exact ⟨none, 0, 0, rfl, by simp, Nat.le_refl _, fun _ => rfl, fun ad h => by simp at h⟩
  · rcases ho.2 with ⟨hx, _⟩ | ⟨g', cap, cur, hx, hb, hg, hn, hm, hcs, htk⟩
    · simp at hx
    · simp only [Value.slice.injEq, Option.some.injEq, Addr.mk.injEq, and_true] at hx
      obtain ⟨rfl, rfl, rfl⟩ := hx
      refine ⟨some ⟨g, if c = lo then 0 else lo * tt.size, none⟩, hi - lo, c - lo, rfl, by simp; omega, by omega, fun h => by simp at h, fun ad had i x hx => ?_⟩
      simp only [Option.some.injEq] at had
      subst had
      rw [List.getElem?_drop] at hx
      have hlt : lo + i < hi := by
        have := (List.getElem?_eq_some_iff.1 hx).1
        simp at this; omega
      rw [List.getElem?_take_of_lt hlt] at hx
      have hR := hr (lo + i) x hx
      refine ⟨rfl, hz g rfl, _, Rd.length hR, fun j y hj => ?_, hR⟩
      rw [if_neg (by omega)]
      rw [List.getElem?_take] at hj
      split at hj
      · rw [List.getElem?_drop] at hj
        have := ho.cells (g := g) rfl _ y hj
        rw [Addr.add_lit, Nat.zero_add] at this
        rw [← this, Nat.add_mul]
      · simp at hj

theorem isWin_all {e : TypeId} {sz n : Nat} {v : Value} {es : List Value} (ho : w.ownsRow 0 e sz v n es) : isWin v sz 0 n v := by
  rcases ho.2 with ⟨rfl, rfl⟩ | ⟨g', cap, cur, rfl, hb, hg, hn, hm, hcs, htk⟩
  · exact .inl ⟨rfl, rfl, rfl, rfl⟩
  · refine .inr ⟨g', n, cap, rfl, Nat.zero_le _, Nat.le_refl _, hn, ?_⟩
    simp

theorem CsSim.map {f : Cell → Cell} (hf : ∀ c v, CSim w Z L c v → CSim w Z' L' (f c) v) : ∀ {cs : List Cell} {vs : List Value}, CsSim w Z L cs vs → CsSim w Z' L' (cs.map f) vs
  | [], [], _ => trivial
  | [], _ :: _, h => h.elim
  | _ :: _, [], h => h.elim
  | _ :: _, _ :: _, ⟨h1, h2⟩ => ⟨hf _ _ h1, CsSim.map hf h2⟩
theorem PsSim.map {f : Cell → Cell} (hf : ∀ c v, CSim w Z L c v → CSim w Z' L' (f c) v) : ∀ {ps : List (Bool × List Cell)} {vs : List Value}, PsSim w Z L ps vs →
    PsSim w Z' L' (ps.map fun x => (x.1, x.2.map f)) vs
  | [], [], _ => trivial
  | [], _ :: _, h => h.elim
  | _ :: _, [], h => h.elim
  | (a, cs) :: _, _ :: _, ⟨h1, h2⟩ => ⟨by
      cases a
      · exact CsSim.map hf h1
      · obtain ⟨vs, e, h⟩ := h1
        exact ⟨vs, e, CsSim.map hf h⟩, PsSim.map hf h2⟩
theorem ESim.map {f : Cell → Cell} (hf : ∀ c v, CSim w Z L c v → CSim w Z' L' (f c) v) : ∀ {e : Ent} {v : Value}, ESim w Z L e v → ESim w Z' L' (mapE f e) v
  | .undef, _, _ => trivial
  | .one _, _, h => hf _ _ h
  | .agg _, _, ⟨vs, e, h⟩ => ⟨vs, e, CsSim.map hf h⟩
  | .tup _, _, ⟨vs, e, h⟩ => ⟨vs, e, PsSim.map hf h⟩
theorem OSim.map {f : Cell → Cell} (hf : ∀ c v, CSim w Z L c v → CSim w Z L (f c) v) {o : Ob} {l : Loc} (h : OSim w Z L o l) : OSim w Z L (mapO f o) l := by
  cases o with
  | box cs =>
    obtain ⟨g, q, vs, rfl, h1, h2⟩ := h
    exact ⟨g, q, vs, rfl, CsSim.map hf h1, h2⟩
  | _ => exact h
theorem foot_map (f : Cell → Cell) (o : Ob) (l : Loc) : foot (mapO f o) l = foot o l := by
  cases o <;> cases l <;> simp [mapO, foot]
end

section
variable {S : Start} {st : St} {a : Act} {w w' : World} {Z Z' : Nat → Prop} {L L' : List Loc}

theorem Sit.map (h : Sit S st a w Z L) {f : Cell → Cell} (hf : ∀ c v, CSim w Z L c v → CSim w Z L (f c) v) : Sit S (st.map f) a w Z L := by
  have old : ∀ (i : Nat) (o : Ob), (st.objs.map (mapO f))[i]? = some o → ∃ o', st.objs[i]? = some o' ∧ o = mapO f o' := by
    intro i o ho
    rw [List.getElem?_map] at ho
    cases hx : st.objs[i]? with
    | none => rw [hx] at ho; simp at ho
    | some o' => rw [hx] at ho; simp at ho; exact ⟨o', rfl, ho.symm⟩
  refine ⟨by simp [St.map, h.tlen], fun d e he => ?_, ⟨by simp [St.map, h.sims.len], fun i o l ho hl => ?_, fun i j o l o' l' h1 h2 h3 h4 hij b q f1 f2 => ?_, fun i o l ho hl b q hq hz => ?_, h.sims.zin⟩,
    h.keeps, h.zup, h.znew, fun i o l ho hl b q hq => ?_, h.lents, h.defers⟩
  · simp only [St.map, List.getElem?_map] at he
    cases hx : st.tmps[d]? with
    | none => rw [hx] at he; simp at he
    | some e' =>
      rw [hx] at he
      simp only [Option.map_some, Option.some.injEq] at he
      subst he
      exact ESim.map hf (h.tmps d e' hx)
  · obtain ⟨o', h1, rfl⟩ := old i o ho
    exact OSim.map hf (h.sims.ob i o' l h1 hl)
  · obtain ⟨o1, a1, rfl⟩ := old i o h1
    obtain ⟨o2, a2, rfl⟩ := old j o' h3
    rw [foot_map] at f1 f2
    exact h.sims.sep i j o1 l o2 l' a1 h2 a2 h4 hij b q f1 f2
  · obtain ⟨o1, a1, rfl⟩ := old i o ho
    rw [foot_map] at hq
    exact h.sims.zap i o1 l a1 hl b q hq hz
  · obtain ⟨o1, a1, rfl⟩ := old i o ho
    rw [foot_map] at hq
    exact h.fnew i o1 l a1 hl b q hq

/-- What names a row reads it, once it is shared. -/
theorem shareC_sim {i e : Nat} {t : Ty} {xs : List t.den} {v : Value} {es : List Value} (hl : L[i]? = some (.row v t.size xs.length)) (ho : w.ownsRow 0 e t.size v xs.length es)
    (hr : RowRd w Z t xs es) (hz : ∀ b, v.ownBlock = some b → Z b) (c : Cell) (u : Value) (h : CSim w Z L c u) : CSim w Z L (shareC i t xs c) u := by
  unfold shareC
  split
  · rename_i j
    simp only [cond_eq_ite]
    split
    · rename_i hj
      simp only [beq_iff_eq] at hj
      subst hj
      obtain ⟨_, sz, n, h1⟩ := h
      rw [hl] at h1
      simp only [Option.some.injEq, Loc.row.injEq] at h1
      obtain ⟨rfl, rfl, rfl⟩ := h1
      have := row_sl ho hr hz (isWin_all ho)
      simpa [CSim] using this
    · exact h
  · rename_i j lo hi
    simp only [cond_eq_ite]
    split
    · rename_i hj
      simp only [beq_iff_eq] at hj
      subst hj
      obtain ⟨u', sz, n, h1, h2⟩ := h
      rw [hl] at h1
      simp only [Option.some.injEq, Loc.row.injEq] at h1
      obtain ⟨rfl, rfl, rfl⟩ := h1
      exact row_sl ho hr hz h2
    · exact h
  · rename_i j k o
    simp only [cond_eq_ite]
    split
    · rename_i hj
      simp only [beq_iff_eq] at hj
      subst hj
      obtain ⟨g, n, c, sz, m, h1, hk, rfl⟩ := h
      rw [hl] at h1
      simp only [Option.some.injEq, Loc.row.injEq] at h1
      obtain ⟨rfl, rfl, rfl⟩ := h1
      rcases ho.2 with ⟨hx, _⟩ | ⟨g', cap, cur, hx, hb, hg, hn, hm, hcs, htk⟩
      · simp at hx
      · simp only [Value.slice.injEq, Option.some.injEq, Addr.mk.injEq, and_true] at hx
        obtain ⟨rfl, rfl, rfl⟩ := hx
        have hkx : xs[k]? = some (xs.getD k t.dflt) := by simp [List.getD, List.getElem?_eq_getElem hk]
        refine ⟨g, k * t.size, _, rfl, hz g rfl, fun j y hj => ?_, hr k _ hkx⟩
        rw [List.getElem?_take] at hj
        split at hj
        · rw [List.getElem?_drop] at hj
          have := ho.cells (g := g) rfl _ y hj
          rwa [Addr.add_lit, Nat.zero_add] at this
        · simp at hj
    · exact h
  · exact h

theorem Sit.share (h : Sit S st a w Z L) (i : Nat) : ∃ Z', (∀ b, Z b → Z' b) ∧ Sit S (st.share i) a w Z' L ∧
    ∀ e t xs, st.ob i = .row e t xs → ∀ v sz n, L[i]? = some (.row v sz n) → ∀ b, v.ownBlock = some b → Z' b := by
  unfold St.share
  split
  · rename_i e t xs hi
    obtain ⟨v, es, h1, hl, h2, h3, h4⟩ := h.row hi
    have hlt := (List.getElem?_eq_some_iff.1 h1).1
    have at_ : ∀ (o'' : Ob) (l' : Loc), (st.objs.set i .dead)[i]? = some o'' → o'' = .dead := by
      intro o'' l' h1
      rw [List.getElem?_set_self hlt] at h1
      simp only [Option.some.injEq] at h1
      exact h1.symm
    let Z' : Nat → Prop := fun b => Z b ∨ v.ownBlock = some b
    have key : Sit S ⟨st.tmps, st.objs.set i .dead⟩ a w Z' L := by
      refine h.update (foot (.row e t xs) (.row v t.size xs.length)) (fun j => j = i) (Keeps.refl _ _) (fun b q hx hz => h.sims.zap i _ _ h1 hl b q hx hz) (fun _ hb => .inl hb) (Grows.refl _) (by simp [h.sims.len]) ?_ ?_ ?_ ?_ ?_ ?_ ?_ ?_ ?_
      · intro j hj _
        rw [List.getElem?_set_ne (by omega)]
      · intro j o1 l1 hj a1 a2 b q hq hx
        exact h.sims.sep j i o1 l1 _ _ a1 a2 h1 hl hj b q hq hx
      · rintro j o1 l1 rfl a1 a2
        rw [at_ o1 l1 a1]; trivial
      · rintro j o1 l1 rfl a1 a2 b q hq
        rw [at_ o1 l1 a1] at hq; exact hq.elim
      · rintro j k o1 l1 o2 l2 rfl rfl _ _ _ _ hij
        exact absurd rfl hij
      · rintro j o1 l1 rfl a1 a2 b q hq hz
        rw [at_ o1 l1 a1] at hq; exact hq.elim
      · rintro b (hb | hb)
        · exact .inl hb
        · exact .inr (.inr fun q => hb)
      · rintro b (hb | hb)
        · exact h.sims.zin b hb
        · exact (h3.lt b hb).2
      · exact fun b q hx => h.fnew i _ _ h1 hl b q hx
    refine ⟨Z', fun _ hb => .inl hb, ?_, fun e' t' xs' _ v' sz' n' hl' b hb => by
      rw [hl] at hl'
      simp only [Option.some.injEq, Loc.row.injEq] at hl'
      obtain ⟨rfl, _⟩ := hl'
      exact .inr hb⟩
    have hr' : RowRd w Z' t xs es := RowRd.mono (fun _ _ => rfl) (fun _ hb => .inl hb) h4
    have := key.map (f := shareC i t xs) (shareC_sim hl h3 hr' (fun b hb => .inr hb))
    unfold St.setOb
    rw [setNth_eq]
    exact this
  · rename_i hn
    exact ⟨Z, fun _ hb => hb, h, fun e t xs hx => absurd hx (hn e t xs)⟩

theorem St.share_ob (st : St) (i j : Nat) (hij : j ≠ i) (e : Nat) (t : Ty) (xs : List t.den) (h : st.ob j = .row e t xs) : (st.share i).ob j = .row e t xs := by
  unfold St.share
  split
  · unfold St.ob St.map St.setOb at *
    simp only [nth_eq, setNth_eq, List.getElem?_map] at h ⊢
    rw [List.getElem?_set_ne (by omega)]
    cases hx : st.objs[j]? with
    | none => rw [hx] at h; simp at h
    | some o => rw [hx] at h; simp at h; subst h; rfl
  · exact h

theorem Sit.shareAll : ∀ (cs : List Cell) {st : St} {Z : Nat → Prop}, Sit S st a w Z L → ∃ Z', (∀ b, Z b → Z' b) ∧ Sit S (st.shareAll cs) a w Z' L ∧
    ∀ i, i ∈ rowIds cs → ∀ e t xs, st.ob i = .row e t xs → ∀ v sz n, L[i]? = some (.row v sz n) → ∀ b, v.ownBlock = some b → Z' b
  | [], st, Z, h => ⟨Z, fun _ hb => hb, h, fun i hi => by simp [rowIds] at hi⟩
  | c :: cs, st, Z, h => by
    have step : ∀ i : Nat, ∃ Z', (∀ b, Z b → Z' b) ∧ Sit S ((st.share i).shareAll cs) a w Z' L ∧
        ∀ j, j ∈ i :: rowIds cs → ∀ e t xs, st.ob j = .row e t xs → ∀ v sz n, L[j]? = some (.row v sz n) → ∀ b, v.ownBlock = some b → Z' b := by
      intro i
      obtain ⟨Z1, hz1, h1, b1⟩ := h.share i
      obtain ⟨Z2, hz2, h2, b2⟩ := Sit.shareAll cs h1
      refine ⟨Z2, fun b hb => hz2 b (hz1 b hb), h2, fun j hj e t xs hx v sz n hl b hb => ?_⟩
      by_cases hji : j = i
      · subst hji
        exact hz2 b (b1 e t xs hx v sz n hl b hb)
      · rcases List.mem_cons.1 hj with hj | hj
        · exact absurd hj hji
        · exact b2 j hj e t xs (St.share_ob st i j hji e t xs hx) v sz n hl b hb
    cases c with
    | row i => exact step i
    | win i lo hi => exact step i
    | _ => exact Sit.shareAll cs h

/-- What a cell reads as once its row is shared. -/
theorem sharedC_sim (h : Sit S st a w Z L) (hz : ∀ b, Z b → Z' b) {c : Cell} {v : Value}
    (hb : ∀ i, i ∈ rowIds [c] → ∀ e t xs, st.ob i = .row e t xs → ∀ v sz n, L[i]? = some (.row v sz n) → ∀ b, v.ownBlock = some b → Z' b)
    (hc : CSim w Z L c v) : CSim w Z' L (sharedC st c) v := by
  have up : CSim w Z' L c v := CSim.mono (fun _ _ => rfl) hz (Grows.refl _) hc
  cases c with
  | row i =>
    simp only [sharedC]
    split
    · rename_i e t xs hx
      obtain ⟨u, es, h1, hl, h2, h3, h4⟩ := h.row hx
      have := shareC_sim (Z := Z') hl h3 (RowRd.mono (fun _ _ => rfl) hz h4) (fun b hbb => hb i (by simp [rowIds]) e t xs hx u _ _ hl b hbb) _ _ up
      simpa [shareC] using this
    · exact up.oneCell
  | win i lo hi =>
    simp only [sharedC]
    split
    · rename_i e t xs hx
      obtain ⟨u, es, h1, hl, h2, h3, h4⟩ := h.row hx
      have := shareC_sim (Z := Z') hl h3 (RowRd.mono (fun _ _ => rfl) hz h4) (fun b hbb => hb i (by simp [rowIds]) e t xs hx u _ _ hl b hbb) _ _ up
      simpa [shareC] using this
    · exact up.oneCell
  | ptrE i k o => exact up.oneCell
  | _ => exact up

theorem mem_rowIds {i : Nat} : ∀ {cs : List Cell} {c : Cell}, c ∈ cs → i ∈ rowIds [c] → i ∈ rowIds cs
  | [], c, h, _ => by simp at h
  | d :: cs, c, h, hi => by
    rcases List.mem_cons.1 h with rfl | h
    · cases c <;> simp_all [rowIds]
    · have := mem_rowIds h hi
      cases d <;> simp_all [rowIds]

theorem sharedCs_sim (h : Sit S st a w Z L) (hz : ∀ b, Z b → Z' b) : ∀ {cs : List Cell} {vs : List Value},
    (∀ i, i ∈ rowIds cs → ∀ e t xs, st.ob i = .row e t xs → ∀ v sz n, L[i]? = some (.row v sz n) → ∀ b, v.ownBlock = some b → Z' b) →
    CsSim w Z L cs vs → CsSim w Z' L (cs.map (sharedC st)) vs
  | [], [], _, _ => trivial
  | [], _ :: _, _, hh => hh.elim
  | _ :: _, [], _, hh => hh.elim
  | c :: cs, v :: vs, hb, ⟨h1, h2⟩ => ⟨sharedC_sim h hz (fun i hi => hb i (mem_rowIds (List.mem_cons_self) hi)) h1,
      sharedCs_sim h hz (fun i hi => hb i (by cases c <;> simp_all [rowIds])) h2⟩
end
end Go.Ry
