/- The evaluator is right: states in the middle of a call; operations on plain values. No condition. -/
import Derived.Test.YtlphiljackccnaaRy4
set_option linter.unusedVariables false
set_option linter.unusedSimpArgs false
namespace Go.Ry

/-- Where a call began. -/
structure Start where
  W : World
  F : Nat → Nat → Prop
  Z : Nat → Prop
  L : List Loc

/-- The state stands for what is there. -/
structure Sit (S : Start) (st : St) (a : Act) (w : World) (Z : Nat → Prop) (L : List Loc) : Prop where
  tlen : st.tmps.length = a.tmps.size
  tmps : ∀ (d : Nat) (e : Ent), st.tmps[d]? = some e → ESim w Z L e (a.tmps.getD d undef)
  sims : Sims w Z L st.objs
  keeps : Keeps S.W S.F w
  zup : ∀ b, S.Z b → Z b
  znew : ∀ b, Z b → S.Z b ∨ S.W.heap.size ≤ b ∨ ∀ q, S.F b q
  fnew : ∀ (i : Nat) (o : Ob) (l : Loc), st.objs[i]? = some o → L[i]? = some l → ∀ b q, foot o l b q → S.W.heap.size ≤ b ∨ S.F b q
  lents : Grows S.L L
  defers : a.defers = []

theorem cstC_sim (w : World) (Z : Nat → Prop) (L : List Loc) : ∀ {v : Value}, v.oneCell' = true → CSim w Z L (cstC v) v := by
  intro v hv
  cases v with
  | agg _ => simp [Value.oneCell'] at hv
  | tuple _ => simp [Value.oneCell'] at hv
  | slice a n c =>
    unfold cstC
    split <;> simp_all [CSim]
  | pointer a =>
    unfold cstC
    split <;> simp_all [CSim]
  | _ => simp [cstC, CSim, Value.oneCell']

theorem cstCs_sim (w : World) (Z : Nat → Prop) (L : List Loc) : ∀ {vs : List Value}, vs.all Value.oneCell' = true → CsSim w Z L (vs.map cstC) vs
  | [], _ => trivial
  | v :: vs, h => by
    simp only [List.all_cons, Bool.and_eq_true] at h
    exact ⟨cstC_sim w Z L h.1, cstCs_sim w Z L h.2⟩

theorem cstE_sim (w : World) (Z : Nat → Prop) (L : List Loc) (v : Value) : ESim w Z L (cstE v) v := by
  unfold cstE
  split
  · rename_i cs
    split
    · rename_i h
      exact ⟨cs, rfl, cstCs_sim w Z L h⟩
    · trivial
  · split
    · rename_i h
      exact cstC_sim w Z L h
    · trivial

section
variable {S : Start} {st : St} {a : Act} {w : World} {Z : Nat → Prop} {L : List Loc}

theorem Sit.tmp (h : Sit S st a w Z L) (d : Nat) : ESim w Z L (st.tmp d) (a.tmps.getD d undef) := by
  unfold St.tmp
  rw [nth_eq]
  cases hd : st.tmps[d]? with
  | none => trivial
  | some e => exact h.tmps d e hd

theorem Sit.ev (h : Sit S st a w Z L) (x : Operand) : ESim w Z L (st.ev x) (a.eval x) := by
  cases x with
  | tmp d => exact h.tmp d
  | const v => exact cstE_sim w Z L v
  | func f => exact ⟨#[], rfl, trivial⟩
  | global g => trivial

theorem Sit.evs (h : Sit S st a w Z L) : ∀ xs : List Operand, EsSim w Z L (xs.map st.ev) (xs.map a.eval)
  | [] => trivial
  | x :: xs => ⟨h.ev x, h.evs xs⟩

theorem Sit.put (h : Sit S st a w Z L) {e : Ent} {v : Value} (he : ESim w Z L e v) (d : Option Nat) : Sit S (st.putO d e) (a.put d v) w Z L := by
  cases d with
  | none => exact h
  | some d =>
    refine ⟨?_, fun d' e' hd => ?_, h.sims, h.keeps, h.zup, h.znew, h.fnew, h.lents, h.defers⟩
    · simp [St.putO, Act.put, setNth_eq, h.tlen]
    · simp only [St.putO, setNth_eq, Act.put] at hd ⊢
      by_cases hdd : d' = d
      · subst hdd
        have hlt : d' < st.tmps.length := by
          have := (List.getElem?_eq_some_iff.1 hd).1
          simpa using this
        rw [List.getElem?_set_self hlt] at hd
        simp only [Option.some.injEq] at hd
        subst hd
        simpa [Array.getD_eq_getD_getElem?, h.tlen ▸ hlt] using he
      · rw [List.getElem?_set_ne (by omega)] at hd
        have := h.tmps d' e' hd
        simpa [Array.getD_eq_getD_getElem?, Array.getElem?_setIfInBounds, show ¬ d = d' by omega] using this

/-- What follows an operation: any state that stands for what is there. -/
def Goes (S : Start) (K : St → Prop) (next : Act → World → Prop) : Prop :=
  ∀ st a w Z L, Sit S st a w Z L → K st → next a w

theorem wp_value {P : Program} {o : Oper} {next : Act → World → Prop} {Q : Exit → Act → World → Prop} {v : Value} {w' : World}
    (h : (execOp a.eval o).run P w = .ok (.value v) w') (hn : next (a.put o.dst v) w') : o.wp P a w next Q := by
  unfold Oper.wp
  rw [h]
  exact hn
/-- What is to be shown of an operation that hands back a value, the same in every world, and does nothing else. -/
def FinV (P : Program) (o : Oper) (a : Act) (w : World) (Z : Nat → Prop) (L : List Loc) (st : St) (K : St → Prop) (R : Prop) : Prop :=
  ∀ (v : Value) (e : Ent), (∀ w', (execOp a.eval o).run P w' = .ok (.value v) w') → ESim w Z L e v → K (st.putO o.dst e) → R
theorem FinV.value {P : Program} {o : Oper} {K : St → Prop} {R : Prop} {v : Value} {e : Ent} (hg : FinV P o a w Z L st K R) (hr : ∀ w', (execOp a.eval o).run P w' = .ok (.value v) w')
    (he : ESim w Z L e v) (hk : K (st.putO o.dst e)) : R := hg v e hr he hk
theorem wp_skip {P : Program} {o : Oper} {next : Act → World → Prop} {Q : Exit → Act → World → Prop} {w' : World}
    (h : (execOp a.eval o).run P w = .ok .skip w') (hn : next (a.put o.dst undef) w') : o.wp P a w next Q := by
  unfold Oper.wp
  rw [h]
  exact hn

/-- A value and nothing else. -/
theorem Sit.value {P : Program} (h : Sit S st a w Z L) {o : Oper} {K : St → Prop} {next : Act → World → Prop} {Q : Exit → Act → World → Prop} {v : Value} {e : Ent}
    (hg : Goes S K next) (hr : (execOp a.eval o).run P w = .ok (.value v) w) (he : ESim w Z L e v) (hk : K (st.putO o.dst e)) : o.wp P a w next Q :=
  wp_value hr (hg _ _ _ _ _ (h.put he o.dst) hk)
theorem Sit.finV {P : Program} (h : Sit S st a w Z L) {o : Oper} {K : St → Prop} {next : Act → World → Prop} {Q : Exit → Act → World → Prop} (hg : Goes S K next) : FinV P o a w Z L st K (o.wp P a w next Q) :=
  fun _ _ hr he hk => h.value hg (hr w) he hk
end

/-! ### arithmetic -/
section
variable {P : Program} {w : World} {Z : Nat → Prop} {L : List Loc} {K : Cell → Prop}

theorem arith_sound {op : BinOp} {k l : IntKind} {x y : Int} (t : TypeId) (hkl : k = l ∨ op = .shl ∨ op = .shr) (h : arith op k x y K) :
    ∃ c v, K c ∧ CSim w Z L c v ∧ ∀ w, (binOp op t (.int k x) (.int l y)).run P w = .ok v w := by
  cases op <;> simp only [arith] at h
  case shl => exact ⟨_, _, h.2, rfl, by simp [binOp, Op.shift, show ¬ y < 0 by omega]⟩
  case shr => exact ⟨_, _, h.2, rfl, by simp [binOp, Op.shift, show ¬ y < 0 by omega]⟩
  all_goals
    have hk : k = l := by simpa using hkl
    subst hk
  case quo => exact ⟨_, _, h.2, rfl, by simp [binOp, Op.intDiv, h.1]⟩
  case rem => exact ⟨_, _, h.2, rfl, by simp [binOp, Op.intDiv, h.1]⟩
  all_goals exact ⟨_, _, h, rfl, by simp [binOp, Op.intArith, Op.intBits, Op.intCmp, bits]⟩

theorem strOp_sound {op : BinOp} {x y : ByteArray} (t : TypeId) (h : strOp op x y K) :
    ∃ c v, K c ∧ CSim w Z L c v ∧ ∀ w, (binOp op t (.string x) (.string y)).run P w = .ok v w := by
  cases op <;> simp only [strOp] at h
  case add =>
    refine ⟨_, _, h.2, rfl, fun w => ?_⟩
    have : ¬ (((x.size + y.size : Nat) : Int) > IntKind.i64.max) := by
      have e : IntKind.i64.max = 9223372036854775807 := by decide
      rw [e]; omega
    simp only [binOp, Op.stringOp, this, if_false]
    rfl
  all_goals first
    | exact h.elim
    | exact ⟨_, _, h, rfl, by simp [binOp, Op.stringOp]⟩
end
end Go.Ry
