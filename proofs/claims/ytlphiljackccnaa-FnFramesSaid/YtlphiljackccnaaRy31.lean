/- The evaluator is right: regions. No condition. -/
import Derived.Test.YtlphiljackccnaaRy30
set_option linter.unusedVariables false
set_option linter.unusedSimpArgs false
namespace Go.Ry

section
variable {P : Program} {S : Start} {st : St} {a : Act} {w w' : World} {Z Z' : Nat → Prop} {L L' : List Loc} {T : Tab} {C : Calls_} {G : List (Nat × Sig)} {K : St → Prop} {Q : Exit → Act → World → Prop}

theorem Sit.setTmp (hs : Sit S st a w Z L) {d : Nat} {e : Ent} (he : ESim w Z L e (a.tmps.getD d undef)) : Sit S ⟨setNth st.tmps d e, st.objs⟩ a w Z L := by
  refine ⟨by simp [setNth_eq, hs.tlen], fun d' e' hd => ?_, hs.sims, hs.keeps, hs.zup, hs.znew, hs.fnew, hs.lents, hs.defers⟩
  simp only [setNth_eq] at hd
  by_cases hdd : d' = d
  · subst hdd
    have hlt : d' < st.tmps.length := by
      have := (List.getElem?_eq_some_iff.1 hd).1
      simpa using this
    rw [List.getElem?_set_self hlt] at hd
    simp only [Option.some.injEq] at hd
    subst hd
    exact he
  · rw [List.getElem?_set_ne (by omega)] at hd
    exact hs.tmps d' e' hd

theorem undef_sim (w : World) (Z : Nat → Prop) (L : List Loc) : ESim w Z L (.tup []) undef := ⟨#[], rfl, trivial⟩

theorem opsW_sound {ops : Array Oper} (hT : tabOk P T = true) (hC : Told P C) (hg : Goes S K fun a w => Q .normal a w) :
    ∀ (os : List Oper) (k : Nat) {st : St} {a : Act} {w : World} {Z : Nat → Prop} {L : List Loc}, os = ops.toList.drop k → Sit S st a w Z L → opsW T C G ops.toList os st K →
      wpOps P ops Q (List.range' k os.length) a w
  | [], k, st, a, w, Z, L, _, hs, h => hg _ _ _ _ _ hs h
  | o :: os, k, st, a, w, Z, L, hk, hs, h => by
    have hget : ops[k]? = some o := by
      have h1 : (o :: os)[0]? = ops.toList[k]? := by rw [hk, List.getElem?_drop]; rfl
      rw [← Array.getElem?_toList, ← h1]
      rfl
    have hos : os = ops.toList.drop (k + 1) := by
      have := congrArg List.tail hk
      simpa using this
    have ih : ∀ {st : St} {a : Act} {w : World} {Z : Nat → Prop} {L : List Loc}, Sit S st a w Z L → opsW T C G ops.toList os st K → wpOps P ops Q (List.range' (k + 1) os.length) a w :=
      fun hs h => opsW_sound hT hC hg os (k + 1) hos hs h
    have ihg : Goes S (fun st => opsW T C G ops.toList os st K) (wpOps P ops Q (List.range' (k + 1) os.length)) := fun st a w Z L hs h => ih hs h
    rw [List.length_cons, List.range'_succ]
    simp only [wpOps, hget]
    simp only [opsW] at h
    split at h
    · rename_i hgd
      rw [if_pos (by simp [Region.wanted, hgd])]
      exact .inl (opW_sound hT hC hs ihg h)
    · rename_i j want hgd
      split at h
      · rename_i d hd
        rw [nth_eq, Array.getElem?_toList] at hd
        have htmp := hs.tmp d
        have hy : ∀ v, a.tmps.getD d undef = v → yielded ops a.tmps j = match v with
            | .bool b => some b
            | _ => none := by
          rintro v rfl
          unfold yielded
          rw [hd, Option.bind_some, Array.getD_eq_getD_getElem?]
          cases a.tmps[d]? with
          | none => rfl
          | some v => cases v <;> rfl
        have skip : ∀ {st' : St}, Sit S st' a w Z L → yielded ops a.tmps j ≠ some want → opsW T C G ops.toList os (st'.putO o.dst (.tup [])) K →
            (if Region.wanted o (yielded ops a.tmps) = true then o.wp P a w (wpOps P ops Q (List.range' (k + 1) os.length)) Q ∨ (o.asks P a w ∧ LetsOut Q) else wpOps P ops Q (List.range' (k + 1) os.length) (a.put o.dst undef) w) := by
          intro st' hs' hne h
          rw [if_neg (by simp only [Region.wanted, hgd, beq_iff_eq]; exact hne)]
          exact ih (hs'.put (undef_sim _ _ _) _) h
        have run : ∀ {st' : St}, Sit S st' a w Z L → yielded ops a.tmps j = some want → opW T C G o st' (fun st => opsW T C G ops.toList os st K) →
            (if Region.wanted o (yielded ops a.tmps) = true then o.wp P a w (wpOps P ops Q (List.range' (k + 1) os.length)) Q ∨ (o.asks P a w ∧ LetsOut Q) else wpOps P ops Q (List.range' (k + 1) os.length) (a.put o.dst undef) w) := by
          intro st' hs' hne h
          rw [if_pos (by simp only [Region.wanted, hgd, beq_iff_eq]; exact hne)]
          exact .inl (opW_sound hT hC hs' ihg h)
        split at h
        · rename_i ht
          rw [ht] at htmp
          obtain ⟨vs, e1, e2⟩ := htmp
          exact skip hs (by rw [hy _ e1]; simp) h
        · rename_i b ht
          rw [ht] at htmp
          have hb : a.tmps.getD d undef = .bool b := htmp
          have hs' : Sit S ⟨setNth st.tmps d (.one (.bool b)), st.objs⟩ a w Z L := hs.setTmp htmp
          split at h
          · cases b
            · simp only [ifB] at h
              exact skip hs' (by rw [hy _ hb]; simp) h
            · simp only [ifB] at h
              exact run hs' (by rw [hy _ hb]) h
          · cases b
            · simp only [ifB] at h
              exact run hs' (by rw [hy _ hb]) h
            · simp only [ifB] at h
              exact skip hs' (by rw [hy _ hb]; simp) h
        · exact h.elim
      · exact h.elim
end
end Go.Ry
