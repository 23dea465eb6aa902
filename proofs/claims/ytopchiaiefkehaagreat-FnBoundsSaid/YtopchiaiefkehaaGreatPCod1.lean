/- Numbers as bytes, code as bytes. No condition. -/
import Derived.Test.YtopchiaiefkehaaGreatPByt3
set_option linter.unusedVariables false
set_option linter.unusedSimpArgs false
namespace Go.Ry
open Go.Proofs

@[reducible] def wU (n : Int) : Int := IntKind.wrap .u8 n
theorem wu8_eq {x : Int} : IntKind.wrap .u8 x = x % 256 := by simp [IntKind.wrap, IntKind.signed, IntKind.bits]
/-- The low n bytes of a number. -/
def leB (x : Int) : Nat → List Int
  | 0 => []
  | n + 1 => IntKind.wrap .u8 x :: leB (x / 256) n
theorem leB_length : ∀ {n : Nat} {x : Int}, (leB x n).length = n
  | 0, _ => rfl
  | n + 1, x => by simp [leB, leB_length (n := n)]
theorem leB_isB : ∀ {n : Nat} {x : Int}, isB (leB x n)
  | 0, _ => by simp [leB, isB]
  | n + 1, x => by
    intro y hy
    simp only [leB, List.mem_cons] at hy
    rcases hy with rfl | hy
    · rw [wu8_eq]; omega
    · exact leB_isB y hy
theorem sgn_leB {z : Nat} {n : Int} (hz : isZ z) (h : -half z ≤ n ∧ n ≤ half z - 1) : sgn z (leN (leB n z)) = n := by
  rcases hz with h1 | h1 | h1
  · obtain rfl : z = 1 := by omega
    simp only [half, Int.natCast_one, if_true] at h
    simp only [leB, leN, wu8_eq, sgn, half, Int.natCast_one, if_true]; split <;> omega
  · obtain rfl : z = 2 := by omega
    simp only [half, show ((2 : Nat) : Int) = 2 from rfl, show (2 : Int) ≠ 1 by decide, if_false, if_true] at h
    simp only [leB, leN, wu8_eq, sgn, half, show ((2 : Nat) : Int) = 2 from rfl, show (2 : Int) ≠ 1 by decide, if_false, if_true]; split <;> omega
  · obtain rfl : z = 4 := by omega
    simp only [half, show ((4 : Nat) : Int) = 4 from rfl, show (4 : Int) ≠ 1 by decide, show (4 : Int) ≠ 2 by decide, if_false] at h
    simp only [leB, leN, wu8_eq, sgn, half, show ((4 : Nat) : Int) = 4 from rfl, show (4 : Int) ≠ 1 by decide, show (4 : Int) ≠ 2 by decide, if_false]; split <;> omega
theorem leB_u64 {z : Nat} {n : Int} (hz : isZ z) : leB (IntKind.wrap .u64 n) z = leB n z := by
  have e : IntKind.wrap .u64 n = n % 18446744073709551616 := by simp [IntKind.wrap, IntKind.signed, IntKind.bits]
  rw [e]
  rcases hz with h1 | h1 | h1
  · obtain rfl : z = 1 := by omega
    simp only [leB, wu8_eq, List.cons.injEq, and_true]; omega
  · obtain rfl : z = 2 := by omega
    simp only [leB, wu8_eq, List.cons.injEq, and_true]; omega
  · obtain rfl : z = 4 := by omega
    simp only [leB, wu8_eq, List.cons.injEq, and_true]; omega
theorem fdiv8 (n : Int) (k : IntKind) (h : 8 ≤ k.bits) : Int.fdiv n (2 ^ min (Int.toNat (8 : Int)) k.bits) = n / 256 := by
  rw [show min (Int.toNat (8 : Int)) k.bits = 8 from Nat.min_eq_left h, show (2 : Int) ^ 8 = 256 by decide, Int.fdiv_eq_ediv_of_nonneg _ (by decide)]
theorem c_impl_put (x : Int) (z : Nat) (hz : isZ z) : TT n_impl_put [eI x, eI z] [] (eS (strL (leB x z))) [] := by
  have hz' : 1 ≤ z ∧ z ≤ 4 := by rcases hz with h | h | h <;> omega
  refine r_impl_put x z ⟨fun m y i r => 0 ≤ i ∧ i ≤ z ∧ m = (z - i).toNat ∧ r.length = i.toNat ∧ r ++ leB y m = leB x z, ⟨_, rfl, by omega, by omega, rfl, rfl, by simp⟩, ?_⟩
  rintro m y i r ⟨h0, h1, hm, h2, h3⟩
  refine ifP (fun hlt => ?_) (fun hge => ?_)
  · obtain ⟨k, rfl⟩ : ∃ k, m = k + 1 := ⟨m - 1, by omega⟩
    rw [w64 (x := i + 1) (by omega), fdiv8 _ _ (by decide)]
    simp only [leB] at h3
    exact ⟨by simp; omega, by decide, k, by omega, rfl, by omega, by omega, by omega, by simp; omega, by rw [List.append_assoc]; exact h3⟩
  · have : m = 0 := by omega
    subst this
    simp only [leB, List.append_nil] at h3
    rw [h3]; exact ⟨rfl, rfl⟩
/-! ### code -/
def encI (x : Ins) : List Int := x.1 :: if (rangeOf x.1).2.2 = true then leB x.2.1 4 else []
def encL : List Ins → List Int
  | [] => []
  | x :: l => encI x ++ encL l
theorem encL_append : ∀ {l m : List Ins}, encL (l ++ m) = encL l ++ encL m
  | [], m => rfl
  | x :: l, m => by simp [encL, encL_append (l := l)]
theorem encI_len {x : Ins} : 1 ≤ (encI x).length ∧ (encI x).length ≤ 5 := by
  unfold encI
  split <;> simp [leB_length]
theorem encL_len : ∀ {l : List Ins}, (encL l).length ≤ 5 * l.length
  | [] => by simp [encL]
  | x :: l => by
    have := encL_len (l := l)
    have := (encI_len (x := x)).2
    simp [encL]; omega
theorem insOK_op {x : Ins} (h : instrOK x.1 x.2.1 = true) : isOp x.1 = true ∧ (1 ≤ x.1 ∧ x.1 ≤ 26) ∧ (-2147483648 ≤ x.2.1 ∧ x.2.1 ≤ 2147483647) ∧ ((rangeOf x.1).2.2 = false → x.2.1 = 0) := by
  unfold instrOK at h
  simp only [Bool.and_eq_true] at h
  have h1 := h.1
  have h2 := within_iff.1 h.2
  unfold isOp at h1
  refine ⟨h.1, within_iff.1 h1, ?_⟩
  revert h2
  unfold rangeOf
  repeat' split
  all_goals (intro h2; simp at h2 ⊢; try omega)
theorem encI_isB {x : Ins} (h : instrOK x.1 x.2.1 = true) : isB (encI x) := by
  have := (insOK_op h).2.1
  unfold encI
  intro y hy
  rw [List.mem_cons] at hy
  rcases hy with rfl | hy
  · omega
  · split at hy
    · exact leB_isB y hy
    · simp at hy
theorem encL_isB : ∀ {l : List Ins}, (∀ x ∈ l, instrOK x.1 x.2.1 = true) → isB (encL l)
  | [], _ => by simp [encL, isB]
  | x :: l, h => by
    intro y hy
    simp only [encL, List.mem_append] at hy
    rcases hy with hy | hy
    · exact encI_isB (h x (by simp)) y hy
    · exact encL_isB (fun z hz => h z (by simp [hz])) y hy
/-- What was written is read again; what follows is read on. -/
theorem parse_enc : ∀ (l : List Ins) (n : Nat) (q : List Int) (out : List Ins), (∀ x ∈ l, instrOK x.1 x.2.1 = true) → out.length + l.length ≤ 40 → (encL l ++ q).length ≤ n → parse n (encL l ++ q) out = parse q.length q (out ++ l)
  | [], n, q, out, _, _, hn => by
    simp only [encL, List.nil_append, List.append_nil]
    exact parse_fuel _ _ _ _ hn (Nat.le_refl _)
  | x :: l, n, q, out, h, h40, hn => by
    obtain ⟨k1, k2, k3, k4⟩ := insOK_op (h x (by simp))
    have ih := fun (n : Nat) (hn : (encL l ++ q).length ≤ n) => parse_enc l n q (out ++ [x]) (fun y hy => h y (by simp [hy])) (by simp at h40 ⊢; omega) hn
    simp only [List.append_assoc, List.singleton_append] at ih
    have hst : ∀ (n : Nat), (encL l ++ q).length ≤ n → step1 (parse n) x.1 x.2.1 (encL l ++ q) out = parse q.length q (out ++ x :: l) := by
      intro n hn
      unfold step1
      rw [if_pos (h x (by simp)), if_neg (by simp at h40; omega)]
      exact ih n hn
    cases n with
    | zero => simp [encL, encI] at hn
    | succ n =>
      cases hr : (rangeOf x.1).2.2
      · have e : encL (x :: l) ++ q = x.1 :: (encL l ++ q) := by simp [encL, encI, hr]
        rw [e] at hn ⊢
        simp only [parse]
        rw [if_pos k1, if_neg (by rw [hr]; simp), ← k4 hr]
        exact hst n (by simpa using hn)
      · have e : encL (x :: l) ++ q = x.1 :: (leB x.2.1 4 ++ (encL l ++ q)) := by simp [encL, encI, hr]
        rw [e] at hn ⊢
        have hl4 : (leB x.2.1 4).length = 4 := leB_length
        have e1 : (leB x.2.1 4 ++ (encL l ++ q)).drop 4 = encL l ++ q := by rw [List.drop_append_of_le_length (by omega), List.drop_eq_nil_of_le (by omega), List.nil_append]
        have e2 : numZ 4 (leB x.2.1 4 ++ (encL l ++ q)) = x.2.1 := by
          unfold numZ
          rw [List.take_append_of_le_length (by omega), List.take_of_length_le (by omega)]
          exact sgn_leB (by simp [isZ]) (by simp [half]; omega)
        simp only [parse]
        rw [if_pos k1, if_pos hr, if_neg (by simp [hl4]), e1, e2]
        exact hst n (by simp [hl4] at hn ⊢; omega)
end Go.Ry
