/- The evaluator is right: objects under new numbers. No condition. -/
import Derived.Test.YtlphiljackccnaaRy24
set_option linter.unusedVariables false
set_option linter.unusedSimpArgs false
namespace Go.Ry

section
variable {S : Start} {st : St} {a : Act} {w w' : World} {Z Z' : Nat → Prop} {L L' : List Loc}

theorem sameTo_get : ∀ {n : Nat} {l m : List Nat}, sameTo n l m = true → ∀ i, i < n → ∃ x, l[i]? = some x ∧ m[i]? = some x
  | 0, _, _, _, i, hi => by omega
  | n + 1, [], _, h, _, _ => by simp [sameTo] at h
  | n + 1, _ :: _, [], h, _, _ => by simp [sameTo] at h
  | n + 1, x :: l, y :: m, h, i, hi => by
    simp only [sameTo, Bool.and_eq_true] at h
    have hxy := Nat.eq_of_beq_eq_true h.1
    cases i with
    | zero => exact ⟨x, rfl, by simp [hxy]⟩
    | succ i => simpa using sameTo_get h.2 i (by omega)

theorem Sit.pick (hs : Sit S st a w Z L) {M : List Nat} {nl : Nat} (hn : M.Nodup) (hM : ∀ i ∈ M, i < st.objs.length) (hsame : sameTo nl M (rangeN nl 0) = true) (hnl : S.L.length = nl) :
    Sit S (st.pick M) a w Z (locs L M) := by
  have hls := lent_sims (extra := fun _ => False) hs hn hM (fun b hb => hb.elim) (fun b hb => hb.elim)
  have hren : ∀ c v, CSim w Z L c v → CSim w Z (locs L M) (renC (idx M) c) v := renC_sim fun i j l hij hl => locs_get (idx_get hij) hl
  have hfun : (fun b => Z b ∨ False) = Z := by funext b; simp
  rw [hfun] at hls
  refine ⟨by simp [St.pick, hs.tlen], fun d e he => ?_, hls, hs.keeps, hs.zup, hs.znew, fun k o l ho hl b q hq => ?_, fun i l hi => ?_, hs.defers⟩
  · simp only [St.pick, List.getElem?_map] at he
    cases hx : st.tmps[d]? with
    | none => rw [hx] at he; simp at he
    | some e' =>
      rw [hx] at he
      simp only [Option.map_some, Option.some.injEq] at he
      subst he
      exact ESim.map hren (hs.tmps d e' hx)
  · obtain ⟨i, o', h1, h2, h3, rfl⟩ := lent_get hs hM ho hl
    rw [foot_map] at hq
    exact hs.fnew i o' l h2 h3 b q hq
  · have hil := (List.getElem?_eq_some_iff.1 hi).1
    obtain ⟨x, h1, h2⟩ := sameTo_get hsame i (by omega)
    rw [rangeN_get, if_pos (by omega)] at h2
    simp only [Nat.zero_add, Option.some.injEq] at h2
    subst h2
    exact locs_get h1 (hs.lents i l hi)
end
end Go.Ry
