/- A sorted list whose doubles are struck is the rising list of its members. No program in sight. No condition. -/
import Derived.Lib.SlicesCompact
import Derived.Lib.RowBridge
set_option linter.unusedVariables false
set_option linter.unusedSimpArgs false
namespace Go.Ry

/-- Rising lists with the same members are one. -/
theorem rising_eq : ∀ {a b : List Int}, a.Pairwise (· < ·) → b.Pairwise (· < ·) → (∀ v, v ∈ a ↔ v ∈ b) → a = b
  | [], [], _, _, _ => rfl
  | [], y :: b, _, _, h => by have := (h y).2 (by simp); cases this
  | x :: a, [], _, _, h => by have := (h x).1 (by simp); cases this
  | x :: a, y :: b, ha, hb, h => by
    obtain ⟨ha1, ha2⟩ := List.pairwise_cons.1 ha
    obtain ⟨hb1, hb2⟩ := List.pairwise_cons.1 hb
    have hxy : x = y := by
      have h1 := (h x).1 (by simp)
      have h2 := (h y).2 (by simp)
      rcases List.mem_cons.1 h1 with e | e
      · exact e
      · rcases List.mem_cons.1 h2 with e2 | e2
        · exact e2.symm
        · have := hb1 x e; have := ha1 y e2; omega
    subst hxy
    rw [rising_eq ha2 hb2 fun v => ?_]
    constructor
    · intro hv
      rcases List.mem_cons.1 ((h v).1 (List.mem_cons_of_mem _ hv)) with e | e
      · subst e; have := ha1 v hv; omega
      · exact e
    · intro hv
      rcases List.mem_cons.1 ((h v).2 (List.mem_cons_of_mem _ hv)) with e | e
      · subst e; have := hb1 v hv; omega
      · exact e
theorem compact_go (d : Array Int) (hs : ∀ i j, i ≤ j → j < d.size → d[i]! ≤ d[j]!) : ∀ m, m ≤ d.size →
    (Lib.compactUpTo d m).Pairwise (· < ·) ∧ (∀ v, v ∈ Lib.compactUpTo d m ↔ ∃ j, j < m ∧ d[j]! = v)
  | 0, _ => ⟨by simp [Lib.compactUpTo], fun v => by simp [Lib.compactUpTo]⟩
  | m + 1, hm => by
    obtain ⟨h1, h2⟩ := compact_go d hs m (by omega)
    rw [Lib.compactUpTo_succ]
    by_cases hk : Lib.keeps d m = true
    · rw [if_pos hk]
      constructor
      · rw [List.pairwise_append]
        refine ⟨h1, by simp, fun x hx y hy => ?_⟩
        rw [List.mem_singleton] at hy
        subst hy
        obtain ⟨j, hj, rfl⟩ := (h2 x).1 hx
        have hjm := hs j (m - 1) (by omega) (by omega)
        have hmm := hs (m - 1) m (by omega) (by omega)
        have hne : d[m]! ≠ d[m - 1]! := by
          have hk' := hk
          unfold Lib.keeps at hk'
          simp at hk'
          rcases hk' with e | e
          · omega
          · exact e
        omega
      · intro v
        rw [List.mem_append, List.mem_singleton, h2 v]
        constructor
        · rintro (⟨j, hj, rfl⟩ | rfl)
          · exact ⟨j, by omega, rfl⟩
          · exact ⟨m, by omega, rfl⟩
        · rintro ⟨j, hj, rfl⟩
          by_cases e : j = m
          · exact .inr (by rw [e])
          · exact .inl ⟨j, by omega, rfl⟩
    · rw [if_neg hk, List.append_nil]
      refine ⟨h1, fun v => ?_⟩
      rw [h2 v]
      constructor
      · rintro ⟨j, hj, rfl⟩; exact ⟨j, by omega, rfl⟩
      · rintro ⟨j, hj, rfl⟩
        by_cases e : j = m
        · subst e
          have hk' := hk
          unfold Lib.keeps at hk'
          simp at hk'
          exact ⟨j - 1, by omega, hk'.2.symm⟩
        · exact ⟨j, by omega, rfl⟩
theorem compact_sorted {S : List Int} (hs : S.Pairwise (· ≤ ·)) : (Lib.compact S).Pairwise (· < ·) ∧ ∀ v, v ∈ Lib.compact S ↔ v ∈ S := by
  have hget : ∀ i, i < S.length → S.toArray[i]! = S.getD i 0 := fun i hi => by simp [List.getD, hi]
  have hsz : S.toArray.size = S.length := by simp
  obtain ⟨h1, h2⟩ := compact_go S.toArray (fun i j hij hj => by
    rw [hsz] at hj
    rw [hget i (by omega), hget j hj]
    by_cases e : i = j
    · subst e; exact Int.le_refl _
    · have := (List.pairwise_iff_getElem.1 hs) i j (by omega) hj (by omega)
      rw [List.getD_eq_getElem?_getD, List.getD_eq_getElem?_getD, List.getElem?_eq_getElem (by omega), List.getElem?_eq_getElem hj]
      exact this) S.length (by omega)
  refine ⟨h1, fun v => ?_⟩
  show v ∈ Lib.compactUpTo S.toArray S.length ↔ _
  rw [h2 v]
  constructor
  · rintro ⟨j, hj, rfl⟩
    rw [hget j hj, List.getD_eq_getElem?_getD, List.getElem?_eq_getElem hj]
    exact List.getElem_mem hj
  · intro hv
    obtain ⟨j, hj, rfl⟩ := List.getElem_of_mem hv
    exact ⟨j, hj, by rw [hget j hj, List.getD_eq_getElem?_getD, List.getElem?_eq_getElem hj]; rfl⟩
theorem sorted_merge (xs : List Int) : (xs.mergeSort fun x y => decide (x ≤ y)).Pairwise (· ≤ ·) := by
  have := List.pairwise_mergeSort (le := fun x y : Int => decide (x ≤ y)) (fun a b c h1 h2 => by simp at *; omega) (fun a b => by simp; omega) xs
  exact this.imp fun h => by simpa using h
/-- Sorted, doubles struck: the members from a range. -/
theorem compact_merge (xs : List Int) (k : Nat) (h : ∀ v ∈ xs, 0 ≤ v ∧ v < k) : Lib.compact (xs.mergeSort fun x y => decide (x ≤ y)) = ((List.range k).map fun i : Nat => (i : Int)).filter fun v => decide (v ∈ xs) := by
  obtain ⟨h1, h2⟩ := compact_sorted (sorted_merge xs)
  refine rising_eq h1 ?_ fun v => ?_
  · refine List.Pairwise.filter _ ?_
    rw [List.pairwise_map]
    exact List.pairwise_lt_range.imp fun h => by omega
  · rw [h2 v, List.mem_mergeSort, List.mem_filter]
    constructor
    · intro hv
      refine ⟨List.mem_map.2 ⟨v.toNat, List.mem_range.2 ?_, ?_⟩, by simpa using hv⟩
      · have := h v hv; omega
      · have := h v hv; omega
    · rintro ⟨_, hv⟩; simpa using hv
end Go.Ry
