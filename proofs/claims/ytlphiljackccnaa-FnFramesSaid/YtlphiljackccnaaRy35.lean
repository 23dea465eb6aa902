/- The evaluator is right: functions. No condition. -/
import Derived.Test.YtlphiljackccnaaRy34
set_option linter.unusedVariables false
set_option linter.unusedSimpArgs false
namespace Go.Ry

section
variable {P : Program} {S : Start} {st : St} {a : Act} {w w' : World} {Z Z' : Nat → Prop} {L L' : List Loc} {T : Tab} {C : Calls_} {G : List (Nat × Sig)} {H : Hints} {Q : Exit → Act → World → Prop}

theorem PSim.of_ent {ag : Bool} {cs : List Cell} {v : Value} (h : ESim w Z L (entOf ag cs) v) (h1 : ag = true ∨ cs.length = 1) : PSim w Z L (ag, cs) v := by
  cases ag with
  | true => exact h
  | false =>
    have h1 : cs.length = 1 := by simpa using h1
    match cs, h1 with
    | [c], _ => exact ⟨h, trivial⟩
theorem PSim.ent {ag : Bool} {cs : List Cell} {v : Value} (h : PSim w Z L (ag, cs) v) : ESim w Z L (entOf ag cs) v := by
  cases ag with
  | true => exact h
  | false =>
    have h : CsSim w Z L cs [v] := h
    match cs, h with
    | [c], h => exact h.1
    | [], h => exact h.elim
    | _ :: _ :: _, h => exact h.2.elim

/-- One result. -/
def resOf (a : Act) : ResultVar → Sem Value
  | .tmp t => pure (a.tmps.getD t undef)
  | .cell x t => do loadVar t (← asAddr (a.tmps.getD x undef))

theorem resC_sim (hT : tabOk P T = true) (hs : Sit S st a w Z L) {r : ResultVar} {e : Bool × List Cell} (h : resC T st r = some e) :
    ∃ v, (resOf a r).run P w = .ok v w ∧ PSim w Z L e v := by
  cases r with
  | tmp t =>
    have ht := hs.tmp t
    simp only [resC] at h
    split at h
    · rename_i c hc
      simp only [Option.some.injEq] at h
      subst h
      rw [hc] at ht
      exact ⟨_, rfl, ⟨ht, trivial⟩⟩
    · rename_i cs hc
      simp only [Option.some.injEq] at h
      subst h
      rw [hc] at ht
      exact ⟨_, rfl, ht⟩
    · simp at h
  | cell x t =>
    have ht := hs.tmp x
    simp only [resC] at h
    split at h
    · rename_i c te hc hte
      rw [hc] at ht
      split at h
      · rename_i cs hb
        split at h
        · rename_i hle
          have hle := Nat.le_of_ble_eq_true hle
          simp only [Option.some.injEq] at h
          subst h
          obtain ⟨g, q, vs, hv, h1, h2⟩ := hs.behind ht hb
          obtain ⟨i, d, z, f⟩ := teFacts (tabOk_look hT hte)
          obtain ⟨v, r1, r2⟩ := run_loadVar_at (g := g) (q := q) f h1 hle
          have r1 := r1 w h2
          refine ⟨v, ?_, PSim.of_ent r2 (f.one.imp id fun e => by rw [List.length_take]; omega)⟩
          simp [resOf, hv, asAddr, r1]
        · simp at h
      · simp at h
    · simp at h

theorem resCs_sim (hT : tabOk P T = true) (hs : Sit S st a w Z L) : ∀ {rs : List ResultVar} {es : List (Bool × List Cell)}, resCs T st rs = some es →
    ∃ vs, (rs.mapM (resOf a)).run P w = .ok vs w ∧ PsSim w Z L es vs
  | [], es, h => by
    simp only [resCs, Option.some.injEq] at h
    subst h
    exact ⟨[], by simp, trivial⟩
  | r :: rs, es, h => by
    simp only [resCs] at h
    split at h
    · rename_i e es' h1 h2
      simp only [Option.some.injEq] at h
      subst h
      obtain ⟨v, r1, r2⟩ := resC_sim hT hs h1
      obtain ⟨vs, r3, r4⟩ := resCs_sim hT hs h2
      exact ⟨v :: vs, by simp [List.mapM_cons, r1, r3], r2, r4⟩
    · simp at h

/-- What the results' cells are; and other cells for the same values. -/
theorem retup_sim : ∀ {es : List (Bool × List Cell)} {vs : List Value}, PsSim w Z L es vs → ∃ us, CsSim w Z L (tupCells es) us ∧
    ∀ (w' : World) (Z' : Nat → Prop) (L' : List Loc) (cs : List Cell), CsSim w' Z' L' cs us → PsSim w' Z' L' (retup es cs) vs
  | [], [], _ => ⟨[], trivial, fun _ _ _ _ _ => trivial⟩
  | [], _ :: _, h => h.elim
  | _ :: _, [], h => h.elim
  | (ag, ds) :: es, v :: vs, ⟨h1, h2⟩ => by
    obtain ⟨us, k1, k2⟩ := retup_sim h2
    have key : ∀ vs0 : List Value, CsSim w Z L ds vs0 → (∀ (w' : World) (Z' : Nat → Prop) (L' : List Loc) (cs : List Cell), CsSim w' Z' L' cs vs0 → PSim w' Z' L' (ag, cs) v) →
        ∃ us, CsSim w Z L (tupCells ((ag, ds) :: es)) us ∧ ∀ (w' : World) (Z' : Nat → Prop) (L' : List Loc) (cs : List Cell), CsSim w' Z' L' cs us → PsSim w' Z' L' (retup ((ag, ds) :: es) cs) (v :: vs) := by
      intro vs0 h3 h4
      refine ⟨vs0 ++ us, h3.append k1, fun w' Z' L' cs hcs => ⟨?_, ?_⟩⟩
      · refine h4 _ _ _ _ ?_
        have := hcs.take (n := ds.length)
        rwa [List.take_left' h3.length] at this
      · refine k2 _ _ _ _ ?_
        have := hcs.drop (n := ds.length)
        rwa [List.drop_left' h3.length] at this
    cases ag with
    | true =>
      obtain ⟨vs0, rfl, h3⟩ := h1
      exact key vs0.toList h3 fun w' Z' L' cs hcs => ⟨vs0, rfl, hcs⟩
    | false => exact key [v] h1 fun w' Z' L' cs hcs => hcs

theorem retup_shape : ∀ {es : List (Bool × List Cell)} {cs : List Cell}, (retup es cs).length = es.length
  | [], _ => rfl
  | _ :: es, cs => by simp [retup, retup_shape (es := es)]

theorem tupE_sim {es : List (Bool × List Cell)} {vs : List Value} (h : PsSim w Z L es vs) : ESim w Z L (tupE es) (if h : vs.toArray.size = 1 then vs.toArray[0] else .tuple vs.toArray) := by
  match es, vs, h with
  | [], [], _ => exact ⟨#[], rfl, trivial⟩
  | [(ag, cs)], [v], h => simpa [tupE] using PSim.ent h.1
  | x :: y :: es, u :: v :: vs, h => exact ⟨(u :: v :: vs).toArray, by simp, by simpa using h⟩
  | [], _ :: _, h => exact h.elim
  | _ :: _, [], h => exact h.elim
  | [_], _ :: _ :: _, h => exact h.2.elim
  | _ :: _ :: _, [_], h => exact h.2.elim

theorem fin_sound (hT : tabOk P T = true) {fn : Func} {nl : Nat} {k : Cut} (hnl : S.L.length = nl) (hs : Sit S st a w Z L) {K : Ent → List Ob → Prop} (h : finW T fn nl k st K) :
    ∃ v r os Z' L', (results fn a.tmps).run P w = .ok v w ∧ K r os ∧ ESim w Z' L' r v ∧ ∃ st' a', st'.objs = os ∧ Sit S st' a' w Z' L' := by
  unfold finW at h
  split at h
  · rename_i es hes
    obtain ⟨vs, r1, r2⟩ := resCs_sim hT hs hes
    obtain ⟨us, u1, u2⟩ := retup_sim r2
    split at h
    · rename_i sh hk
      have hs' : Sit S ⟨[.agg (tupCells es)], st.objs⟩ ⟨#[.agg us.toArray], []⟩ w Z L := by
        refine ⟨rfl, fun d e hd => ?_, hs.sims, hs.keeps, hs.zup, hs.znew, hs.fnew, hs.lents, rfl⟩
        cases d with
        | zero =>
          simp only [List.getElem?_cons_zero, Option.some.injEq] at hd
          subst hd
          exact ⟨us.toArray, rfl, by simpa using u1⟩
        | succ d => simp at hd
      obtain ⟨es', os, hJ, ⟨Z', L', hs2⟩, hu⟩ := arrive_sound hs' hnl h
      split at hJ
      · clear hu
        rename_i _ cs
        have he : ESim w Z' L' (.agg cs) (.agg us.toArray) := hs2.tmps 0 _ (by simp [mkSt, hk, setSlots, undefs, setNth])
        obtain ⟨us', e1, e2⟩ := he
        simp only [Value.agg.injEq] at e1
        subst e1
        have hp := u2 w Z' L' cs (by simpa using e2)
        refine ⟨_, _, os, Z', L', ?_, hJ, tupE_sim hp, _, _, rfl, hs2⟩
        have hr : ((fn.results.mapM fun x => resOf a x).run P w) = .ok vs.toArray w := by
          rw [Array.mapM_eq_mapM_toList]
          simp [r1]
        unfold results
        have hfun : (fun x => resOf a x) = fun (x : ResultVar) => (match x with
          | .tmp t => pure (a.tmps.getD t undef)
          | .cell x t => do loadVar t (← asAddr (a.tmps.getD x undef)) : Sem Value) := by
          funext x
          cases x <;> rfl
        rw [hfun] at hr
        simp only [Sem.run_bind]
        erw [hr]
        rfl
      · exact hJ.elim
    · exact h.elim
  · exact h.elim

theorem esSim_get : ∀ {as : List Ent} {vs : List Value}, EsSim w Z L as vs → vs.length = as.length ∧ ∀ (d : Nat) (e : Ent), as[d]? = some e → ∃ v, vs[d]? = some v ∧ ESim w Z L e v
  | [], [], _ => ⟨rfl, fun d e h => by simp at h⟩
  | [], _ :: _, h => h.elim
  | _ :: _, [], h => h.elim
  | x :: as, v :: vs, ⟨h1, h2⟩ => by
    obtain ⟨k1, k2⟩ := esSim_get h2
    refine ⟨by simp [k1], fun d e he => ?_⟩
    cases d with
    | zero =>
      simp only [List.getElem?_cons_zero, Option.some.injEq] at he
      subst he
      exact ⟨v, rfl, h1⟩
    | succ d => simpa using k2 d e (by simpa using he)

/-- A function whose body the evaluator runs through does as it is told. -/
theorem fun_sound (hm : P.follows .mixedOrders = true) (hT : tabOk P T = true) (hC : Told P C) {g : Nat} {fn : Func} {c : Code} (hf : P.funcs[g]? = some fn) (hb : fn.body = some c) (hn : (fn.name == "runtime.NumGoroutine") = false)
    {as : List Ent} {os : List Ob} {r : Ent} {os' : List Ob} (h : funW T C G H fn c as os fun r' ps => r' = r ∧ ps = os') : Triple P g as os r os' := by
  intro w Z L vs hsim has
  refine .inr ⟨?_, ?_⟩
  · have hn' : ¬ fn.name = "runtime.NumGoroutine" := fun e => by simp [e] at hn
    unfold callFunc
    simp [hf, hn', hb]
  · refine calls_of_wp hf hb ?_
    obtain ⟨l1, l2⟩ := esSim_get has
    have hs : Sit ⟨w, feet os L, Z, L⟩ ⟨as ++ undefs (fn.ntmps - as.length), os⟩ ⟨vs ++ Array.replicate (fn.ntmps - vs.size) undef, []⟩ w Z L := by
      have hlen : as.length = vs.size := by rw [← l1, Array.length_toList]
      refine ⟨by simp [undefs_length, hlen], fun d e hd => ?_, hsim, Keeps.refl _ _, fun _ hb => hb, fun _ hb => .inl hb, fun i o l h1 h2 b q hq => .inr ⟨i, o, l, h1, h2, hq⟩, Grows.refl _, rfl⟩
      by_cases hlt : d < as.length
      · rw [List.getElem?_append_left hlt] at hd
        obtain ⟨v, v1, v2⟩ := l2 d e hd
        have : (vs ++ Array.replicate (fn.ntmps - vs.size) undef).getD d undef = v := by
          rw [Array.getD_eq_getD_getElem?, Array.getElem?_append_left (by omega), ← Array.getElem?_toList, v1]
          rfl
        rw [this]
        exact v2
      · rw [List.getElem?_append_right (by omega)] at hd
        rw [undefs_get hd]
        trivial
    refine codeW_sound (S := ⟨w, feet os L, Z, L⟩) (nl := os.length) hm hT hC hsim.len c hs h fun x st a w' Z' L' hs' hk => ?_
    have fin : finW T fn os.length H.fin st (fun r' ps => r' = r ∧ ps = os') → bodyPost P fn (fun e w' => match e with
        | .returned v => ∃ Z' L', Sims w' Z' L' os' ∧ ESim w' Z' L' r v ∧ Grows L L' ∧ Keeps w (feet os L) w' ∧ (∀ b, Z b → Z' b) ∧
          (∀ b, Z' b → Z b ∨ w.heap.size ≤ b ∨ ∀ q, feet os L b q) ∧
          (∀ (i : Nat) (o : Ob) (l : Loc), os'[i]? = some o → L'[i]? = some l → ∀ b q, foot o l b q → w.heap.size ≤ b ∨ feet os L b q)
        | _ => False) .normal a w' := by
      intro hk
      obtain ⟨v, r', ps, Z2, L2, h1, ⟨rfl, rfl⟩, h3, st', a', rfl, h5⟩ := fin_sound (S := ⟨w, feet os L, Z, L⟩) hT hsim.len hs' hk
      exact ⟨hs'.defers, v, h1, Z2, L2, h5.sims, h3, h5.lents, h5.keeps, h5.zup, h5.znew, h5.fnew⟩
    cases x with
    | norm => exact fin hk
    | ret => exact fin hk
    | exit i => exact hk.elim
end
end Go.Ry
