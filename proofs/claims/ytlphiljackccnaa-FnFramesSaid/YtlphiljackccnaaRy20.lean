/- The evaluator is right: calls (4). No condition. -/
import Derived.Test.YtlphiljackccnaaRy19
set_option linter.unusedVariables false
set_option linter.unusedSimpArgs false
namespace Go.Ry

section
variable {P : Program} {S : Start} {st : St} {a : Act} {w w' : World} {Z Z' : Nat → Prop} {L L' : List Loc} {T : Tab} {C : Calls_} {G : List (Nat × Sig)} {o : Oper} {K : St → Prop} {next : Act → World → Prop} {Q : Exit → Act → World → Prop}

/-- What is told of calls is so. -/
def Told (P : Program) (C : Calls_) : Prop := ∀ g as os r os', C g as os r os' → Triple P g as os r os'

theorem exA_some {l : Option (List OSh)} {os : List Ob} {K : List Ob → Prop} (h : exA l os K) : ∃ os', K os' ∧ (∀ l', l = some l' → l'.all OSh.flat = true → os'.all Ob.flat = true) ∧ (l = none → os' = os) := by
  cases l with
  | none => exact ⟨os, h, fun l' e => by simp at e, fun _ => rfl⟩
  | some l =>
    obtain ⟨os', h1, h2⟩ := exO_some (l := l) h
    exact ⟨os', h1, fun l' e => by
      simp only [Option.some.injEq] at e
      subst e
      exact h2, fun e => by simp at e⟩

theorem callM_sound {g : Nat} {s : Sig} {as : List Ent} {M : List Nat} {extra : Nat → Prop} {vs : Array Value} (hC : Told P C)
    (hs : Sit S st a w Z L) (hg : Goes S K next) (h : callM C g s as M [] st o.dst K) (hn : M.Nodup) (hM : ∀ i ∈ M, i < st.objs.length)
    (hx1 : ∀ b, extra b → b < w.heap.size) (hx2 : ∀ b, extra b → ∀ i ∈ M, ∀ (o : Ob) (l : Loc), st.objs[i]? = some o → L[i]? = some l → ∀ q, ¬ foot o l b q)
    (hflat : (∀ b, ¬ extra b) ∨ (s.flat = true ∧ (s.after = none → (lent st M).all Ob.flat = true))) (has : EsSim w (fun b => Z b ∨ extra b) L as vs.toList)
    (hrun : (execOp a.eval o).run P w = (callFunc g vs).run P w) : o.wp P a w next Q := by
  unfold callM at h
  obtain ⟨r, h, hr⟩ := exE_some h
  obtain ⟨nw, h, hnw⟩ := exO_some h
  obtain ⟨os, h, hos, hos'⟩ := exA_some h
  obtain ⟨hc, hlen, hk⟩ := h
  have hlen := Nat.eq_of_beq_eq_true hlen
  simp only [closeW] at hk
  have hfl : (∀ b, ¬ extra b) ∨ (r.flat = true ∧ (os ++ nw).all Ob.flat = true) := by
    rcases hflat with hx | ⟨hx, hx'⟩
    · exact .inl hx
    · refine .inr ?_
      unfold Sig.flat at hx
      cases ha : s.after with
      | none =>
        simp only [ha, Bool.and_eq_true] at hx
        refine ⟨hr hx.1, ?_⟩
        rw [List.all_append, Bool.and_eq_true]
        exact ⟨by rw [hos' ha]; exact hx' ha, hnw hx.2.2⟩
      | some l =>
        simp only [ha, Bool.and_eq_true] at hx
        refine ⟨hr hx.1, ?_⟩
        rw [List.all_append, Bool.and_eq_true]
        exact ⟨hos l ha hx.2.1, hnw hx.2.2⟩
  have hren : ∀ c v, CSim w (fun b => Z b ∨ extra b) L c v → CSim w (fun b => Z b ∨ extra b) (locs L M) (renC (idx M) c) v :=
    renC_sim fun i j l hij hl => locs_get (idx_get hij) hl
  have hd := hC _ _ _ _ _ hc w (fun b => Z b ∨ extra b) (locs L M) vs (lent_sims hs hn hM hx1 hx2) (EsSim.map hren has)
  have fin : ∀ v w', (∃ Z' L', Sims w' Z' L' (os ++ nw) ∧ ESim w' Z' L' r v ∧ Grows (locs L M) L' ∧ Keeps w (feet (lent st M) (locs L M)) w' ∧ (∀ b, Z b ∨ extra b → Z' b) ∧
      (∀ b, Z' b → (Z b ∨ extra b) ∨ w.heap.size ≤ b ∨ ∀ q, feet (lent st M) (locs L M) b q) ∧
      (∀ (i : Nat) (o : Ob) (l : Loc), (os ++ nw)[i]? = some o → L'[i]? = some l → ∀ b q, foot o l b q → w.heap.size ≤ b ∨ feet (lent st M) (locs L M) b q)) → next (a.put o.dst v) w' := by
    rintro v w' ⟨Z', L', h1, h2, h3, h4, h5, h6, h7⟩
    obtain ⟨Z2, L2, s1, s2, _⟩ := back_sit hs hn hM hlen hfl h1 h2 h3 h4 h5 h6 h7
    exact hg _ _ _ _ _ (s1.put s2 o.dst) hk
  unfold Oper.wp
  rw [hrun]
  rcases hd with ⟨v, w', h1, h2⟩ | ⟨h1, h2⟩
  · rw [h1]
    exact fin v w' h2
  · rw [h1]
    refine Calls.mono h2 fun e w' he => ?_
    cases e with
    | returned v => exact fin v w' he
    | panicked _ => exact he.elim
    | outgrown => exact he.elim
end
end Go.Ry
