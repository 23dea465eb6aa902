/- The evaluator is right: any operation. No condition. -/
import Derived.Test.YtlphiljackccnaaRy27
set_option linter.unusedVariables false
set_option linter.unusedSimpArgs false
namespace Go.Ry

section
variable {P : Program} {S : Start} {st : St} {a : Act} {w w' : World} {Z Z' : Nat → Prop} {L L' : List Loc} {T : Tab} {C : Calls_} {G : List (Nat × Sig)} {o : Oper} {K : St → Prop} {next : Act → World → Prop} {Q : Exit → Act → World → Prop}

theorem opW_sound (hT : tabOk P T = true) (hC : Told P C) (hs : Sit S st a w Z L) (hg : Goes S K next) (h : opW T C G o st K) : o.wp P a w next Q := by
  cases ho : o.op with
  | move x => exact sound_move (.inl ho) hs (by simpa only [opW, ho] using h) (hs.finV hg)
  | assign x => exact sound_move (.inr ho) hs (by simpa only [opW, ho] using h) (hs.finV hg)
  | pick c x y => exact sound_pick ho hs (hs.finV hg) (by simp only [opW, ho] at h; exact h)
  | alloc t => exact sound_alloc ho hT hs hg h
  | box t x => exact sound_box ho hs hg h
  | build t ps => exact sound_build ho hT hs (hs.finV hg) h
  | buildSlice t n ps => exact sound_buildSlice ho hT hs hg h
  | load t x => exact sound_load ho hT hs hg h
  | store t x y => exact sound_store ho hT hs hg h
  | nilCheck x => exact sound_nilCheck ho hs (hs.finV hg) h
  | binOp op t x y z => exact sound_binOp ho hT hs (hs.finV hg) h
  | unOp op t x => exact sound_unOp ho hs (hs.finV hg) h
  | convert s d x => exact sound_convert ho hT hs hg h
  | makeFunc f x y => exact sound_makeFunc ho hs (hs.finV hg) h
  | makeSlice t x y => exact sound_makeSlice ho hT hs hg h
  | fieldAddr s x k => exact sound_fieldAddr ho hT hs (hs.finV hg) h
  | field s x k => exact sound_field ho hT hs (hs.finV hg) h
  | indexAddr t x y => exact sound_indexAddr ho hT hs (hs.finV hg) h
  | index t x y =>
    simp only [opW, ho] at h
    split at h
    · rename_i te s k i hte hx hy
      split at h
      · rename_i hk
        exact sound_index ho hT hs (hs.finV hg) hte hx hy hk h
      · exact h.elim
    · exact h.elim
  | extract x i => exact sound_extract ho hs (hs.finV hg) h
  | slice t x lo hi m =>
    cases m with
    | none => exact sound_slice ho hT hs (hs.finV hg) h
    | some m => simp [opW, ho] at h
  | call c =>
    cases hcl : c.callee with
    | builtin b =>
      have h' : builtinW T b c.args.toList c.argTypes.toList st o.dst K := by
        rcases c with ⟨ce, ar, at_⟩
        simp only at hcl
        subst hcl
        simpa only [opW, ho] using h
      cases b
      case len =>
        cases har : c.args.toList with
        | nil => rw [har] at h'; simp [builtinW] at h'
        | cons x l =>
          cases l with
          | nil => rw [har] at h'; exact sound_len ho hcl har rfl hT hs (hs.finV hg) h'
          | cons y l => rw [har] at h'; simp [builtinW] at h'
      case min => exact sound_min ho hcl hs (hs.finV hg) h'
      case max => exact sound_max ho hcl hs (hs.finV hg) h'
      case append =>
        cases har : c.args.toList with
        | nil => rw [har] at h'; simp [builtinW] at h'
        | cons x l =>
          cases l with
          | nil => rw [har] at h'; simp [builtinW] at h'
          | cons y l =>
            cases l with
            | nil => rw [har] at h'; exact sound_append ho hcl har rfl hT hs hg h'
            | cons _ _ => rw [har] at h'; simp [builtinW] at h'
      all_goals simp [builtinW] at h'
    | value f =>
      refine sound_call (G := G) ho hcl hC hs hg ?_
      rcases c with ⟨ce, ar, at_⟩
      simp only at hcl
      subst hcl
      simp only [opW, ho] at h
      exact h
    | _ => exfalso; rcases c with ⟨ce, ar, at_⟩; simp only at hcl; subst hcl; simp [opW, ho] at h
  | _ => simp [opW, ho] at h
end
end Go.Ry
