/- Functions of the library that hand back a new row. No condition. -/
import Derived.Test.YtlfapnlaalnbjaaGreatDoorPExt
import Derived.Sort.Row
set_option linter.unusedVariables false
set_option linter.unusedSimpArgs false
namespace Go.Ry
open Go.RowKit Go.Sort

/-- A new row comes of it. -/
theorem fresh_out {w w' : World} {Z : Nat → Prop} {e : TypeId} {t : Ty} {xs : List t.den} {v : Value} (hs : Sims w Z [] []) (hk : Keeps w (fun _ _ => False) w') (hv : ∃ a n c, v = .slice a n c)
    (ho : OSim w' Z [.row v t.size xs.length] (.row e t xs) (.row v t.size xs.length)) (hb : ∀ b, v.ownBlock = some b → w.heap.size ≤ b) :
    ∃ Z' L', Sims w' Z' L' [.row e t xs] ∧ ESim w' Z' L' (.one (.row 0)) v ∧ Grows [] L' ∧ Keeps w (feet [] []) w' ∧ (∀ b, Z b → Z' b) ∧ (∀ b, Z' b → Z b ∨ w.heap.size ≤ b ∨ ∀ q, feet [] [] b q) ∧
      (∀ (i : Nat) (o : Ob) (l : Loc), ([Ob.row e t xs] : List Ob)[i]? = some o → L'[i]? = some l → ∀ b q, foot o l b q → w.heap.size ≤ b ∨ feet [] [] b q) := by
  have hft : ∀ (i : Nat) (o : Ob) (l : Loc), ([Ob.row e t xs] : List Ob)[i]? = some o → ([Loc.row v t.size xs.length] : List Loc)[i]? = some l → o = .row e t xs ∧ l = .row v t.size xs.length ∧ i = 0 := by
    intro i o l h1 h2
    cases i with
    | zero => exact ⟨(Option.some.inj h1).symm, (Option.some.inj h2).symm, rfl⟩
    | succ i => simp at h1
  refine ⟨Z, [.row v t.size xs.length], ⟨rfl, ?_, ?_, ?_, fun b hb' => Nat.lt_of_lt_of_le (hs.zin b hb') hk.size, ?_⟩, ?_, fun i l h => by simp at h, hk.mono (fun _ _ _ h => h.elim), fun _ h => h, fun _ h => .inl h, ?_⟩
  · intro i o l h1 h2
    obtain ⟨rfl, rfl, rfl⟩ := hft i o l h1 h2
    exact ho
  · intro i j o l o' l' h1 h2 h3 h4 hne
    exact absurd ((hft i o l h1 h2).2.2.trans (hft j o' l' h3 h4).2.2.symm) hne
  · intro i o l h1 h2 b q hf hz
    obtain ⟨rfl, rfl, rfl⟩ := hft i o l h1 h2
    have := hb b hf
    have := hs.zin b hz
    omega
  · exact hs.tab.mono (fun b hz => hk.same (hs.zin b hz) (fun _ h => h)) (fun _ h => h)
  · exact ⟨hv, _, _, rfl⟩
  · intro i o l h1 h2 b q hf
    obtain ⟨rfl, rfl, rfl⟩ := hft i o l h1 h2
    exact .inl (hb b hf)

/-- Texts in a new block, and nothing else. -/
theorem fresh_strs {w : World} {Z : Nat → Prop} (hs : Sims w Z [] []) (xs : List ByteArray) (T : TypeId) (hx : xs.length ≤ 1048577) :
    ∃ Z' L', Sims (w.alloc (.cells (xs.map Value.string).toArray T)) Z' L' [.row T .str xs] ∧ ESim (w.alloc (.cells (xs.map Value.string).toArray T)) Z' L' (.one (.row 0)) (.slice (some ⟨w.heap.size, 0, none⟩) xs.length xs.length) ∧ Grows [] L' ∧ Keeps w (feet [] []) (w.alloc (.cells (xs.map Value.string).toArray T)) ∧ (∀ b, Z b → Z' b) ∧ (∀ b, Z' b → Z b ∨ w.heap.size ≤ b ∨ ∀ q, feet [] [] b q) ∧
      (∀ (i : Nat) (o : Ob) (l : Loc), ([Ob.row T .str xs] : List Ob)[i]? = some o → L'[i]? = some l → ∀ b q, foot o l b q → w.heap.size ≤ b ∨ feet [] [] b q) := by
  have hk : (w.alloc (.cells (xs.map Value.string).toArray T)).heap[w.heap.size]? = some (.cells (xs.map Value.string).toArray T (0, 0)) := by
    show (w.heap.push _)[w.heap.size]? = _
    exact Array.getElem?_push_size
  refine fresh_out hs (Keeps.alloc _ _ _) ⟨_, _, _, rfl⟩ ⟨_, xs.map Value.string, rfl, by decide, ⟨by simp [Ty.size], .inr ⟨w.heap.size, xs.length, _, rfl, Nat.zero_le _, hk, Nat.le_refl _, ?_, ?_, ?_⟩⟩, ?_⟩ (fun b hb => ?_)
  · have : maxLen = 9223372036854775807 := by decide
    omega
  · simp [Ty.size]
  · rw [List.toList_toArray, List.take_of_length_le (by simp [Ty.size])]
  · intro i x hx
    have hi : i < xs.length := (List.getElem?_eq_some_iff.1 hx).1
    show _ = [Value.string x]
    simp only [Ty.size, Nat.mul_one]
    rw [List.drop_eq_getElem_cons (by simpa using hi), List.take_succ_cons, List.take_zero, List.getElem_map, (List.getElem?_eq_some_iff.1 hx).2]
  · have : b = w.heap.size := (Option.some.inj hb).symm
    omega
end Go.Ry
