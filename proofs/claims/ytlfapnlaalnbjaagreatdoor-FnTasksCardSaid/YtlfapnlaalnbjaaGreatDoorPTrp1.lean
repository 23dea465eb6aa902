/- Numbers and words as texts, read back. No program in sight. No condition. -/
import Derived.Test.YtlfapnlaalnbjaaGreatDoorPRdn1
import Derived.Test.YtlfapnlaalnbjaaGreatDoorPWrd1
import Derived.Lib.ItoaNum
import Derived.Lib.Join
set_option linter.unusedVariables false
set_option linter.unusedSimpArgs false
namespace Go.Ry

theorem nDig_le : ∀ (k u : Nat), u < 10 ^ k → 1 ≤ k → Lib.nDigits u ≤ k
  | 0, u, _, h => by omega
  | k + 1, u, h, _ => by
    by_cases h10 : u < 10
    · rw [Lib.nDigits_small h10]; omega
    · rw [Lib.nDigits_big h10]
      cases k with
      | zero => simp at h; omega
      | succ k => have := nDig_le (k + 1) (u / 10) (by rw [Nat.pow_succ] at h; omega) (by omega); omega
theorem dec_len18 {u : Nat} (h : u ≤ 999999999999999999) : (Lib.decDigits u).length ≤ 18 := by
  rw [Lib.decDigits_length]; exact nDig_le 18 u (by omega) (by omega)
/-- Digits are digits. -/
theorem dec_dig (u : Nat) : ∀ c ∈ Lib.decDigits u, 48 ≤ c.toNat ∧ c.toNat ≤ 57 := by
  induction u using Nat.strongRecOn with
  | _ u ih =>
    intro c hc
    by_cases h : u < 10
    · rw [dec_small h, List.mem_singleton] at hc
      subst hc
      have : (UInt8.ofNat (48 + u)).toNat = 48 + u := by simp; omega
      omega
    · rw [dec_big h] at hc
      rcases List.mem_append.1 hc with hc | hc
      · exact ih _ (by omega) c hc
      · rw [List.mem_singleton] at hc
        subst hc
        have : (UInt8.ofNat (48 + u % 10)).toNat = 48 + u % 10 := by simp; omega
        omega
/-- A word: not empty, no blank. -/
def isWord (x : List UInt8) : Prop := x ≠ [] ∧ ∀ c ∈ x, c ≠ 32
theorem itoa_word (n : Int) : isWord (Lib.itoa n) := by
  by_cases h : n < 0
  · obtain ⟨u, rfl⟩ : ∃ u : Nat, n = -(u : Int) := ⟨n.natAbs, by omega⟩
    rw [Lib.itoa_neg u (by omega)]
    refine ⟨by simp, fun c hc => ?_⟩
    rcases List.mem_cons.1 hc with rfl | hc
    · decide
    · have := dec_dig u c hc
      intro e; subst e; revert this; decide
  · obtain ⟨u, rfl⟩ : ∃ u : Nat, n = (u : Int) := ⟨n.natAbs, by omega⟩
    rw [Lib.itoa_nonneg]
    refine ⟨dec_ne u, fun c hc => ?_⟩
    have := dec_dig u c hc
    intro e; subst e; revert this; decide
/-- A number's text is read back. -/
theorem num_itoa (n : Int) (h : -999999999999999999 ≤ n ∧ n ≤ 999999999999999999) : numOf (Lib.itoa n) = some n := by
  unfold numOf
  by_cases h0 : n < 0
  · obtain ⟨u, rfl⟩ : ∃ u : Nat, n = -(u : Int) := ⟨n.natAbs, by omega⟩
    have hm : magOf (Lib.decDigits u) true = some u := magOf_of (dec_ne u) (dec_len18 (by omega)) (decFrom_dec u) (fun e => by
      have := dec_head u 48 (by rw [e]; rfl) rfl
      omega) (fun _ e => by
      have := dec_head u 48 (by rw [e]; rfl) rfl
      omega)
    rw [Lib.itoa_neg u (by omega), if_pos (show (45 :: Lib.decDigits u).head? = some 45 from rfl), List.tail_cons, hm]
    rfl
  · obtain ⟨u, rfl⟩ : ∃ u : Nat, n = (u : Int) := ⟨n.natAbs, by omega⟩
    have hm : magOf (Lib.decDigits u) false = some u := magOf_of (dec_ne u) (dec_len18 (by omega)) (decFrom_dec u) (fun e => by
      have := dec_head u 48 (by rw [e]; rfl) rfl
      subst this; rw [dec_zero]; rfl) (fun e => by cases e)
    rw [Lib.itoa_nonneg, if_neg, hm]
    · rfl
    · intro e
      have : (45 : UInt8) ∈ Lib.decDigits u := List.mem_of_mem_head? e
      have := dec_dig u _ this
      revert this; decide
theorem wsp_app_word : ∀ (x a r : List UInt8), (∀ c ∈ x, c ≠ 32) → wsp a (x ++ r) = wsp (a ++ x) r
  | [], a, r, _ => by simp
  | c :: x, a, r, h => by
    rw [List.cons_append, wsp_more _ (h c (by simp)), wsp_app_word x (a ++ [c]) r (fun d hd => h d (by simp [hd]))]
    simp
/-- What stands ahead of a blank, and what stands behind it. -/
theorem wsp_cut : ∀ (l a r : List UInt8), wsp a (l ++ 32 :: r) = wsp a l ++ wsp [] r
  | [], a, r => by rw [List.nil_append, wsp_blank, wsp_nil]
  | c :: l, a, r => by
    by_cases hc : c = 32
    · subst hc
      rw [List.cons_append, wsp_blank, wsp_blank, wsp_cut l [] r, List.append_assoc]
    · rw [List.cons_append, wsp_more _ hc, wsp_more _ hc, wsp_cut l _ r]
theorem wsp_word1 {x : List UInt8} (h : isWord x) : wsp [] x = [x] := by
  rw [wsp_end x [] h.2, List.nil_append, if_neg h.1]
theorem wsp_tail : ∀ (xs : List (List UInt8)), (∀ x ∈ xs, isWord x) → ∀ a : List UInt8, a ≠ [] → wsp a (Lib.joinTail [32] xs) = a :: xs
  | [], _, a, ha => by simp [Lib.joinTail, wsp_nil, ha]
  | x :: xs, h, a, ha => by
    have hx := h x (by simp)
    have e : Lib.joinTail [32] (x :: xs) = 32 :: (x ++ Lib.joinTail [32] xs) := by simp [Lib.joinTail]
    rw [e, wsp_blank, if_neg ha, wsp_app_word x [] _ hx.2, List.nil_append, wsp_tail xs (fun y hy => h y (by simp [hy])) x hx.1]
    rfl
/-- Words with blanks between are those words. -/
theorem wsp_join (xs : List (List UInt8)) (h : ∀ x ∈ xs, isWord x) : wsp [] (Lib.join xs [32]) = xs := by
  cases xs with
  | nil => rfl
  | cons x xs =>
    have hx := h x (by simp)
    rw [Lib.join_cons, wsp_app_word x [] _ hx.2, List.nil_append, wsp_tail xs (fun y hy => h y (by simp [hy])) x hx.1]
theorem wsp_ahead (l : List UInt8) : wsp [] (32 :: l) = wsp [] l := by rw [wsp_blank, if_pos rfl]; rfl
theorem wsp_behind (l : List UInt8) : wsp [] (l ++ [32, 32]) = wsp [] l := by
  rw [wsp_cut l [] [32]]
  have : wsp [] [32] = [] := by rw [wsp_blank, if_pos rfl, wsp_nil, if_pos rfl]; rfl
  rw [this, List.append_nil]
end Go.Ry
