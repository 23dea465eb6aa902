/- Words of a line: cut at the blanks, what is empty struck. No program in sight. No condition. -/
import Derived.Lib.SplitLaws
set_option linter.unusedVariables false
set_option linter.unusedSimpArgs false
namespace Go.Ry

theorem lsplit_nil (c : UInt8) : Lib.split [] [c] = [[]] := by
  unfold Lib.split
  rw [Lib.count_one]; rfl
theorem lsplit_eq (c : UInt8) (l : List UInt8) : Lib.split (c :: l) [c] = [] :: Lib.split l [c] := by
  unfold Lib.split
  have hix : Lib.index (c :: l) [c] = 0 := by rw [Lib.index]; simp [List.isPrefixOf]
  rw [Lib.count_cons_eq, Nat.add_comm, Lib.splitK, hix]
  rfl
theorem lsplit_ne {b c : UInt8} (h : b ≠ c) (l : List UInt8) : ∃ p r, Lib.split l [c] = p :: r ∧ Lib.split (b :: l) [c] = (b :: p) :: r := by
  unfold Lib.split
  rw [Lib.count_cons_ne b c l h]
  have hp : ([c] : List UInt8).isPrefixOf (b :: l) = false := by simp [List.isPrefixOf, Ne.symm h]
  have hix : Lib.index (b :: l) [c] = if Lib.index l [c] == -1 then -1 else Lib.index l [c] + 1 := by rw [Lib.index, hp]; simp
  have hge := Lib.index_ge l [c]
  cases Lib.count l [c] with
  | zero => exact ⟨l, [], rfl, rfl⟩
  | succ k =>
    simp only [Lib.splitK, hix]
    by_cases hm : Lib.index l [c] = -1
    · rw [hm]; exact ⟨l, [], rfl, rfl⟩
    · have hm1 : ¬ (Lib.index l [c] == -1) = true := by simpa using hm
      have hm2 : ¬ (Lib.index l [c] + 1 == -1) = true := by simp; omega
      rw [if_neg hm1, if_neg hm1, if_neg hm2]
      refine ⟨_, _, rfl, ?_⟩
      obtain ⟨j, hj⟩ : ∃ j : Nat, Lib.index l [c] = j := ⟨(Lib.index l [c]).toNat, by omega⟩
      rw [hj, show ((j : Int) + 1).toNat = j + 1 by omega]
      simp
/-- The words behind one that has begun. -/
def wsp (a : List UInt8) : List UInt8 → List (List UInt8)
  | [] => if a = [] then [] else [a]
  | c :: r => if c = 32 then (if a = [] then [] else [a]) ++ wsp [] r else wsp (a ++ [c]) r
theorem wsp_nil (a : List UInt8) : wsp a [] = if a = [] then [] else [a] := rfl
theorem wsp_blank (a r : List UInt8) : wsp a (32 :: r) = (if a = [] then [] else [a]) ++ wsp [] r := by rw [wsp, if_pos rfl]
theorem wsp_more (a : List UInt8) {c : UInt8} (h : c ≠ 32) (r : List UInt8) : wsp a (c :: r) = wsp (a ++ [c]) r := by rw [wsp, if_neg h]
def kept (w : List UInt8) : Bool := decide (w ≠ [])
theorem split_wsp : ∀ (l a : List UInt8), ∃ p r, Lib.split l [32] = p :: r ∧ wsp a l = ((a ++ p) :: r).filter kept
  | [], a => ⟨[], [], lsplit_nil _, by rw [wsp_nil]; by_cases h : a = [] <;> simp [h, kept]⟩
  | c :: l, a => by
    by_cases hc : c = 32
    · subst hc
      obtain ⟨p, r, h1, h2⟩ := split_wsp l []
      refine ⟨[], p :: r, by rw [lsplit_eq, h1], ?_⟩
      rw [wsp_blank, h2]
      by_cases h : a = [] <;> simp [h, kept, List.filter_cons]
    · obtain ⟨p, r, h1, h2⟩ := lsplit_ne hc l
      obtain ⟨p', r', h3, h4⟩ := split_wsp l (a ++ [c])
      rw [h1] at h3
      obtain ⟨rfl, rfl⟩ := List.cons.inj h3
      exact ⟨_, _, h2, by rw [wsp_more _ hc, h4]; simp⟩
theorem split_kept (l : List UInt8) : (Lib.split l [32]).filter kept = wsp [] l := by
  obtain ⟨p, r, h1, h2⟩ := split_wsp l []
  rw [h1, h2]; rfl
/-- No word is empty or has a blank. -/
theorem wsp_word : ∀ (l a : List UInt8), (∀ c ∈ a, c ≠ 32) → ∀ x ∈ wsp a l, x ≠ [] ∧ (∀ c ∈ x, c ≠ 32)
  | [], a, ha, x, hx => by
    rw [wsp_nil] at hx
    split at hx
    · simp at hx
    · simp only [List.mem_singleton] at hx
      subst hx; exact ⟨by assumption, ha⟩
  | c :: l, a, ha, x, hx => by
    by_cases hc : c = 32
    · subst hc
      rw [wsp_blank] at hx
      rcases List.mem_append.1 hx with h | h
      · split at h
        · simp at h
        · simp only [List.mem_singleton] at h
          subst h; exact ⟨by assumption, ha⟩
      · exact wsp_word l [] (by simp) x h
    · rw [wsp_more _ hc] at hx
      exact wsp_word l _ (fun d hd => by rcases List.mem_append.1 hd with h | h; exact ha d h; simp at h; subst h; exact hc) x hx
/-- The words are no longer than the line. -/
theorem wsp_len : ∀ (l a : List UInt8), ((wsp a l).map List.length).sum ≤ a.length + l.length
  | [], a => by rw [wsp_nil]; split <;> simp
  | c :: l, a => by
    by_cases hc : c = 32
    · subst hc
      have := wsp_len l []
      rw [wsp_blank]
      split <;> simp_all <;> omega
    · have := wsp_len l (a ++ [c])
      rw [wsp_more _ hc]; simp at this ⊢; omega
theorem wsp_count : ∀ (l a : List UInt8), (wsp a l).length ≤ 1 + l.length
  | [], a => by rw [wsp_nil]; split <;> simp
  | c :: l, a => by
    by_cases hc : c = 32
    · subst hc
      have := wsp_count l []
      rw [wsp_blank]
      split <;> simp <;> omega
    · have := wsp_count l (a ++ [c])
      rw [wsp_more _ hc]; simp at this ⊢; omega
/-- A word and a blank ahead of others. -/
theorem wsp_app_blank : ∀ (x a r : List UInt8), (∀ c ∈ x, c ≠ 32) → wsp a (x ++ 32 :: r) = (if a ++ x = [] then [] else [a ++ x]) ++ wsp [] r
  | [], a, r, _ => by simp only [List.nil_append, List.append_nil]; exact wsp_blank a r
  | c :: x, a, r, h => by
    rw [List.cons_append, wsp_more _ (h c (by simp)), wsp_app_blank x (a ++ [c]) r (fun d hd => h d (by simp [hd]))]
    simp
theorem wsp_end : ∀ (x a : List UInt8), (∀ c ∈ x, c ≠ 32) → wsp a x = if a ++ x = [] then [] else [a ++ x]
  | [], a, _ => by simp [wsp_nil]
  | c :: x, a, h => by
    rw [wsp_more _ (h c (by simp)), wsp_end x (a ++ [c]) (fun d hd => h d (by simp [hd]))]
    simp
end Go.Ry
