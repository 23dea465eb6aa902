/- The evaluator is right: calls (5). No condition. -/
import Derived.Test.YtlphiljackccnaaRy20
set_option linter.unusedVariables false
set_option linter.unusedSimpArgs false
namespace Go.Ry

section
variable {P : Program} {S : Start} {st : St} {a : Act} {w w' : World} {Z Z' : Nat → Prop} {L L' : List Loc} {T : Tab} {C : Calls_} {G : List (Nat × Sig)} {o : Oper} {K : St → Prop} {next : Act → World → Prop} {Q : Exit → Act → World → Prop}

theorem CsSim.mapMem {f : Cell → Cell} : ∀ {cs : List Cell} {vs : List Value}, (∀ c ∈ cs, ∀ v, CSim w Z L c v → CSim w Z' L' (f c) v) → CsSim w Z L cs vs → CsSim w Z' L' (cs.map f) vs
  | [], [], _, _ => trivial
  | [], _ :: _, _, h => h.elim
  | _ :: _, [], _, h => h.elim
  | _ :: _, _ :: _, hf, ⟨h1, h2⟩ => ⟨hf _ List.mem_cons_self _ h1, CsSim.mapMem (fun c hc => hf c (List.mem_cons_of_mem _ hc)) h2⟩
theorem EsSim.mapA {f : Cell → Cell} : ∀ {es : List Ent} {vs : List Value}, (∀ c ∈ entCells es, ∀ v, CSim w Z L c v → CSim w Z' L' (f c) v) → EsSim w Z L es vs → EsSim w Z' L' (es.map (Ry.mapA f)) vs
  | [], [], _, _ => trivial
  | [], _ :: _, _, h => h.elim
  | _ :: _, [], _, h => h.elim
  | e :: es, v :: vs, hf, ⟨h1, h2⟩ => by
    refine ⟨?_, EsSim.mapA (fun c hc => hf c (List.mem_append_right _ hc)) h2⟩
    cases e with
    | undef => trivial
    | tup l => trivial
    | one c => exact hf c (List.mem_append_left _ (by simp [Ent.cells])) _ h1
    | agg cs =>
      obtain ⟨us, e1, e2⟩ := h1
      exact ⟨us, e1, CsSim.mapMem (fun c hc => hf c (List.mem_append_left _ (by simpa [Ent.cells] using hc))) e2⟩

theorem disj_not : ∀ {l M : List Nat}, disj l M = true → ∀ i ∈ l, i ∉ M
  | [], M, _, i, h => by simp at h
  | n :: l, M, h, i, hi => by
    simp only [disj, cond_eq_ite] at h
    split at h
    · simp at h
    · rename_i hn
      rcases List.mem_cons.1 hi with rfl | hi
      · exact fun hm => hn (memN_iff.2 hm)
      · exact disj_not h i hi

theorem callW_sound {g : Nat} {es : List Ent} {vs : Array Value} (hC : Told P C) (hs : Sit S st a w Z L) (hg : Goes S K next) (h : callW C G g es st o.dst K)
    (has : EsSim w Z L es vs.toList) (hrun : (execOp a.eval o).run P w = (callFunc g vs).run P w) : o.wp P a w next Q := by
  unfold callW at h
  split at h
  · rename_i s hsg
    split at h
    · split at h
      · rename_i hc
        simp only [Bool.and_eq_true] at hc
        exact callM_sound (extra := fun _ => False) hC hs hg h (nodupN_nodup hc.1) (allLt_lt hc.2) (fun b hb => hb.elim) (fun b hb => hb.elim) (.inl fun _ h => h)
          (EsSim.mono (fun _ _ => rfl) (fun _ hb => .inl hb) (Grows.refl _) has) hrun
      · exact h.elim
    · split at h
      · dsimp only at h
        split at h
        · rename_i hc
          simp only [Bool.and_eq_true, Bool.or_eq_true] at hc
          obtain ⟨c1, c2, c3, c4, c5⟩ := hc
          let extra : Nat → Prop := fun b => ∃ i ∈ rowIds (entCells es), ∃ v sz n e t xs, st.ob i = .row e t xs ∧ L[i]? = some (.row v sz n) ∧ v.ownBlock = some b
          have hM := allLt_lt c2
          refine callM_sound (extra := extra) hC hs hg h (nodupN_nodup c1) hM ?_ ?_ (.inr ⟨c4, fun ha => ?_⟩) (EsSim.mapA (fun c hc v hv => ?_) has) hrun
          · rintro b ⟨i, _, v, sz, n, e, t, xs, h1, h2, h3⟩
            obtain ⟨u, es', q1, q2, q3, q4, q5⟩ := hs.row h1
            rw [h2] at q2
            simp only [Option.some.injEq, Loc.row.injEq] at q2
            obtain ⟨rfl, _⟩ := q2
            exact (q4.lt b h3).2
          · rintro b ⟨i, hi, v, sz, n, e, t, xs, h1, h2, h3⟩ j hj o' l' ho' hl' q hq
            obtain ⟨u, es', q1, q2, q3, q4, q5⟩ := hs.row h1
            have hij : i ≠ j := fun e => disj_not c3 i hi (e ▸ hj)
            exact hs.sims.sep i j _ _ o' l' q1 h2 ho' hl' hij b q h3 hq
          · rcases c5 with c5 | c5
            · rw [ha] at c5; simp [isNone] at c5
            · exact c5
          · refine sharedC_sim hs (fun b hb => .inl hb) (fun i hi e t xs hob v' sz n hl b hb => .inr ⟨i, mem_rowIds hc hi, v', sz, n, e, t, xs, hob, hl, hb⟩) hv
        · exact h.elim
      · dsimp only at h
        split at h
        · rename_i hc
          simp only [Bool.and_eq_true] at hc
          obtain ⟨Z', hz', hs', hsh⟩ := Sit.shareAll (entCells es) hs
          refine callM_sound (extra := fun _ => False) hC hs' hg h (nodupN_nodup hc.1) (allLt_lt hc.2) (fun b hb => hb.elim) (fun b hb => hb.elim) (.inl fun _ h => h) ?_ hrun
          refine EsSim.mono (fun _ _ => rfl) (fun _ hb => .inl hb) (Grows.refl _) (EsSim.mapA (Z' := Z') (fun c hc v hv => ?_) has)
          exact sharedC_sim hs hz' (fun i hi => hsh i (mem_rowIds hc hi)) hv
        · exact h.elim
  · exact h.elim
end
end Go.Ry
