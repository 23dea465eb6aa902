/- Functions whose contracts are the library's: from a call's outcome to what the evaluator is told. No condition. -/
import Derived.Test.YtlfapnlaalnbjaaPKit
set_option linter.unusedVariables false
set_option linter.unusedSimpArgs false
namespace Go.Ry
open Go.RowKit

theorem does_enter {P : Program} {g : Nat} {fn : Func} {c : Code} {vs : Array Value} {w : World} {R : Value → World → Prop} (hf : P.funcs[g]? = some fn) (hb : fn.body = some c) (hn : (fn.name == "runtime.NumGoroutine") = false)
    (h : Calls P g vs w fun e w' => match e with
      | .returned v => R v w'
      | _ => False) : Does P g vs w R := by
  refine .inr ⟨?_, h⟩
  have hn' : ¬ fn.name = "runtime.NumGoroutine" := fun e => by simp [e] at hn
  unfold callFunc
  simp [hf, hn', hb]
theorem kept_out {w w' : World} {Z : Nat → Prop} {L : List Loc} {os : List Ob} {r : Ent} {v : Value} (hs : Sims w Z L os) (hk : Keeps w (fun _ _ => False) w') (he : ESim w' Z L r v) :
    ∃ Z' L', Sims w' Z' L' os ∧ ESim w' Z' L' r v ∧ Grows L L' ∧ Keeps w (feet os L) w' ∧ (∀ b, Z b → Z' b) ∧ (∀ b, Z' b → Z b ∨ w.heap.size ≤ b ∨ ∀ q, feet os L b q) ∧
      (∀ (i : Nat) (o : Ob) (l : Loc), os[i]? = some o → L'[i]? = some l → ∀ b q, foot o l b q → w.heap.size ≤ b ∨ feet os L b q) :=
  ⟨Z, L, hs.update (fun _ _ => False) (fun _ => False) hk (fun _ _ h => h.elim) (fun _ h => h) (Grows.refl _) hs.len (fun _ _ _ => rfl) (fun _ _ _ _ _ _ _ _ _ h => h) (fun _ _ _ h => h.elim) (fun _ _ _ h => h.elim)
      (fun _ _ _ _ _ _ h => h.elim) (fun _ _ _ h => h.elim) (fun _ hb => .inl hb) (fun b hb => Nat.lt_of_lt_of_le (hs.zin b hb) hk.size),
    he, Grows.refl _, hk.mono (fun _ _ _ h => h.elim), fun _ h => h, fun _ h => .inl h, fun i o l h1 h2 b q hf => .inr ⟨i, o, l, h1, h2, hf⟩⟩
theorem keeps_below {w w' : World} (h : Below w.heap.size w w') : Keeps w (fun _ _ => False) w' := ⟨h.os, h.tape, h.output, h.size, fun b hb => .inl (h.block b hb)⟩
theorem one_arg {w : World} {Z : Nat → Prop} {L : List Loc} {e : Ent} {vs : Array Value} (h : EsSim w Z L [e] vs.toList) : ∃ v, vs = #[v] ∧ ESim w Z L e v := by
  match hv : vs.toList, h with
  | [x], ⟨h1, _⟩ => exact ⟨x, by rw [← Array.toArray_toList (xs := vs), hv], h1⟩
theorem two_args {w : World} {Z : Nat → Prop} {L : List Loc} {e f : Ent} {vs : Array Value} (h : EsSim w Z L [e, f] vs.toList) : ∃ v u, vs = #[v, u] ∧ ESim w Z L e v ∧ ESim w Z L f u := by
  match hv : vs.toList, h with
  | [x, y], ⟨h1, h2, _⟩ => exact ⟨x, y, by rw [← Array.toArray_toList (xs := vs), hv], h1, h2⟩
theorem getD_mem {α : Type} {l : List α} {i : Nat} (h : i < l.length) {d : α} : l.getD i d ∈ l := by
  rw [List.getD_eq_getElem?_getD, List.getElem?_eq_getElem h]; exact List.getElem_mem h
end Go.Ry
