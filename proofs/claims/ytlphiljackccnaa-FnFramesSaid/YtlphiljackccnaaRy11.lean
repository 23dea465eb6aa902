/- The evaluator is right: operations (1). No condition. -/
import Derived.Test.YtlphiljackccnaaRy10
set_option linter.unusedVariables false
set_option linter.unusedSimpArgs false
namespace Go.Ry

section
variable {P : Program} {S : Start} {st : St} {a : Act} {w w' : World} {Z Z' : Nat → Prop} {L L' : List Loc} {T : Tab} {o : Oper} {K : St → Prop} {next : Act → World → Prop} {Q : Exit → Act → World → Prop} {R : Prop}

theorem eqGuard_run (op : BinOp) (t : TypeId) (x y : Operand) (v u : Value) (h : (∀ cs, v ≠ .agg cs) ∧ (v ≠ .nilIface ∨ u ≠ .nilIface ∨ ∃ c, y = .const c)) : (eqGuard op t x y v u).run P w = .ok () w := by
  obtain ⟨h1, h2⟩ := h
  have key : ∀ op : BinOp, op = .eql ∨ op = .neq → (eqGuard op t x y v u).run P w = .ok () w := by
    intro op hop
    cases v with
    | agg cs => exact absurd rfl (h1 cs)
    | nilIface =>
      cases u with
      | nilIface =>
        rcases h2 with h | h | ⟨c, rfl⟩
        · exact absurd rfl h
        · exact absurd rfl h
        · rcases hop with rfl | rfl <;> simp [eqGuard]
      | _ => rcases hop with rfl | rfl <;> rfl
    | _ => rcases hop with rfl | rfl <;> rfl
  cases op <;> first
    | exact key _ (.inl rfl)
    | exact key _ (.inr rfl)
    | rfl

theorem exec_binOp {op : BinOp} {t : TypeId} {x y : Operand} {sh : TypeId} {v : Value} (ho : o.op = .binOp op t x y sh)
    (hg : (∀ cs, a.eval x ≠ .agg cs) ∧ (a.eval x ≠ .nilIface ∨ a.eval y ≠ .nilIface ∨ ∃ c, y = .const c))
    (hr : (binOp op t (a.eval x) (a.eval y)).run P w = .ok v w) : (execOp a.eval o).run P w = .ok (.value v) w := by
  unfold execOp
  simp only [ho, Sem.run_bind, eqGuard_run op t x y _ _ hg, Result.andThen_ok, hr, Sem.run_pure]

theorem listOf_len (hs : Sit S st a w Z L) {c : Cell} {v : Value} {u : Ty} {xs : List u.den} (hc : CSim w Z L c v) (hl : st.listOf c = some ⟨u, xs⟩) :
    ∃ ad n cap, v = .slice ad n cap ∧ n = xs.length ∧ (ad = none → xs.length = 0) := by
  unfold St.listOf at hl
  split at hl
  · simp only [Option.some.injEq, Sigma.mk.injEq] at hl
    obtain ⟨rfl, hl⟩ := hl
    simp only [heq_eq_eq] at hl
    subst hl
    obtain ⟨ad, n, cap, h1, h2, h3, h4, _⟩ := hc
    simp only [List.cons.injEq, and_true] at h1
    exact ⟨ad, n, cap, h1, h2, fun e => by rw [← h2]; exact h4 e⟩
  · split at hl
    · rename_i e u' xs' hob
      simp only [Option.some.injEq, Sigma.mk.injEq] at hl
      obtain ⟨rfl, hl⟩ := hl
      simp only [heq_eq_eq] at hl
      subst hl
      obtain ⟨v', es, q1, q2, q3, q4, q5⟩ := hs.row hob
      obtain ⟨_, sz, n, q6⟩ := hc
      rw [q2] at q6
      simp only [Option.some.injEq, Loc.row.injEq] at q6
      obtain ⟨rfl, rfl, rfl⟩ := q6
      rcases q4.2 with ⟨rfl, hn⟩ | ⟨g, cap, cur, rfl, _⟩
      · exact ⟨none, 0, 0, rfl, hn.symm, fun _ => hn⟩
      · exact ⟨_, _, _, rfl, rfl, fun e => by simp at e⟩
    · simp at hl
  · split at hl
    · rename_i lo hi e u' xs' hob
      simp only [Option.some.injEq, Sigma.mk.injEq] at hl
      obtain ⟨rfl, hl⟩ := hl
      simp only [heq_eq_eq] at hl
      subst hl
      obtain ⟨v', es, q1, q2, q3, q4, q5⟩ := hs.row hob
      obtain ⟨u, sz, n, q6, q7⟩ := hc
      rw [q2] at q6
      simp only [Option.some.injEq, Loc.row.injEq] at q6
      obtain ⟨rfl, rfl, rfl⟩ := q6
      rcases q7 with ⟨rfl, rfl, rfl, rfl⟩ | ⟨g, n, c, rfl, h1, h2, h3, rfl⟩
      · exact ⟨none, 0, 0, rfl, by simp, fun _ => by simp⟩
      · rcases q4.2 with ⟨hx, _⟩ | ⟨g', cap, cur, hx, _⟩
        · simp at hx
        · simp only [Value.slice.injEq] at hx
          exact ⟨_, _, _, rfl, by simp; omega, fun e => by simp at e⟩
    · simp at hl
  · simp at hl

theorem sound_move {x : Operand} (ho : o.op = .move x ∨ o.op = .assign x) (hs : Sit S st a w Z L) (h : K (st.putO o.dst (st.ev x))) (hg : FinV P o a w Z L st K R) : R :=
  hg.value (by intro w; unfold execOp; rcases ho with ho | ho <;> simp only [ho] <;> rfl) (hs.ev x) h

theorem ev_one {x : Operand} {c : Cell} (hs : Sit S st a w Z L) (hx : st.ev x = .one c) : CSim w Z L c (a.eval x) := by
  have := hs.ev x
  rw [hx] at this
  exact this

theorem sound_pick {c x y : Operand} (ho : o.op = .pick c x y) (hs : Sit S st a w Z L) (hg : FinV P o a w Z L st K R)
    (h : match st.ev c with
      | .one (.bool t) => match t with
        | true => K (st.putO o.dst (st.ev x))
        | false => K (st.putO o.dst (st.ev y))
      | _ => False) : R := by
  split at h
  · rename_i t hc
    have hb : a.eval c = .bool t := ev_one hs hc
    cases t
    · exact hg.value (by intro w; unfold execOp; simp only [ho, hb, asBool]; rfl) (hs.ev y) h
    · exact hg.value (by intro w; unfold execOp; simp only [ho, hb, asBool]; rfl) (hs.ev x) h
  · exact h.elim
end
end Go.Ry
