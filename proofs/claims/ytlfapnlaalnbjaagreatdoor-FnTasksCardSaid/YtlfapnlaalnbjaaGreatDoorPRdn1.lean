/- The number that a text is: Atoi, told by Itoa and of at most 18 digits, is the number that plain digits spell. No program in sight. No condition. -/
import Derived.Lib.AtoiTie
import Derived.Lib.AtoiAllCases
import Derived.Lib.ItoaMem
import Derived.Lib.Strings
set_option linter.unusedVariables false
set_option linter.unusedSimpArgs false
namespace Go.Ry

theorem decFrom_app (b : UInt8) : ∀ (l : List UInt8) (acc : Nat), Lib.decFrom acc (l ++ [b]) = (Lib.decFrom acc l).bind fun n => (Lib.digitVal b).map fun d => n * 10 + d
  | [], acc => by
    simp only [List.nil_append, Lib.decFrom, Option.bind_some]
    cases Lib.digitVal b <;> rfl
  | c :: l, acc => by
    simp only [List.cons_append, Lib.decFrom]
    cases Lib.digitVal c with
    | none => rfl
    | some d => exact decFrom_app b l _
theorem digitVal_of {d : Nat} (h : d < 10) : Lib.digitVal (UInt8.ofNat (48 + d)) = some d := by
  have e : (UInt8.ofNat (48 + d)).toNat = 48 + d := by simp; omega
  unfold Lib.digitVal
  rw [e, if_pos (by omega)]
  simp
theorem digitVal_eq {b : UInt8} {d : Nat} (h : Lib.digitVal b = some d) : d < 10 ∧ b = UInt8.ofNat (48 + d) := by
  unfold Lib.digitVal at h
  split at h
  · rename_i k
    have := Option.some.inj h
    refine ⟨by omega, ?_⟩
    apply UInt8.toNat_inj.1
    simp; omega
  · cases h
theorem dec_small {u : Nat} (h : u < 10) : Lib.decDigits u = [UInt8.ofNat (48 + u)] := by rw [Lib.decDigits, dif_pos h]
theorem dec_big {u : Nat} (h : ¬ u < 10) : Lib.decDigits u = Lib.decDigits (u / 10) ++ [UInt8.ofNat (48 + u % 10)] := by rw [Lib.decDigits, dif_neg h]
theorem decFrom_dec (u : Nat) : Lib.decFrom 0 (Lib.decDigits u) = some u := by
  induction u using Nat.strongRecOn with
  | _ u ih =>
    by_cases h : u < 10
    · rw [dec_small h]
      simp only [Lib.decFrom, digitVal_of h]
      simp
    · rw [dec_big h, decFrom_app, ih (u / 10) (by omega), digitVal_of (by omega)]
      simp; omega
theorem dec_ne (u : Nat) : Lib.decDigits u ≠ [] := by
  by_cases h : u < 10
  · rw [dec_small h]; simp
  · rw [dec_big h]; simp
theorem head_app {α : Type} {l : List α} (h : l ≠ []) (r : List α) : (l ++ r).head? = l.head? := by
  cases l with
  | nil => exact absurd rfl h
  | cons _ _ => rfl
/-- The digits ahead: no needless 0. -/
theorem dec_head (u : Nat) : ∀ b ∈ (Lib.decDigits u).head?, b = 48 → u = 0 := by
  induction u using Nat.strongRecOn with
  | _ u ih =>
    intro b hb e
    by_cases h : u < 10
    · rw [dec_small h] at hb
      have hb : UInt8.ofNat (48 + u) = b := Option.some.inj hb
      have : (UInt8.ofNat (48 + u)).toNat = 48 := by rw [hb, e]; rfl
      simp at this; omega
    · rw [dec_big h, head_app (dec_ne _)] at hb
      have := ih (u / 10) (by omega) b hb e
      omega
theorem dec_zero : Lib.decDigits 0 = [48] := by rw [dec_small (by omega)]; rfl
/-- Digits without a needless 0 ahead are the number's own. -/
theorem dec_of_len (k : Nat) : ∀ (l : List UInt8), l.length = k → ∀ (n : Nat), l ≠ [] → Lib.decFrom 0 l = some n → (l.head? = some 48 → l.length = 1) → Lib.decDigits n = l := by
  induction k with
  | zero => intro l hk n h; exact absurd (List.length_eq_zero_iff.1 hk) h
  | succ k ih =>
    intro l hk n hne hd hz
    obtain ⟨l, b, rfl⟩ : ∃ L b, l = L ++ [b] := ⟨l.dropLast, l.getLast hne, (List.dropLast_concat_getLast hne).symm⟩
    have hk1 : l.length = k := by simpa using hk
    rw [decFrom_app] at hd
    cases hl : Lib.decFrom 0 l with
    | none => rw [hl] at hd; simp at hd
    | some m =>
      cases hb : Lib.digitVal b with
      | none => rw [hl, hb] at hd; simp at hd
      | some d =>
        rw [hl, hb] at hd
        simp at hd
        obtain ⟨hd10, rfl⟩ := digitVal_eq hb
        by_cases he : l = []
        · subst he
          simp only [Lib.decFrom, Option.some.injEq] at hl
          subst hl
          rw [dec_small (by omega), ← hd]; simp
        · have hm : Lib.decDigits m = l := ih l hk1 m he hl (fun h0 => by
            have e1 := hz (by rw [head_app he]; exact h0)
            have e2 : l.length ≠ 0 := fun e => he (List.length_eq_zero_iff.1 e)
            rw [List.length_append] at e1
            simp only [List.length_cons, List.length_nil] at e1; omega)
          have hm0 : m ≠ 0 := by
            intro e
            subst e
            rw [dec_zero] at hm
            subst hm
            simp at hz
          have h10 : ¬ n < 10 := by have := Nat.pos_of_ne_zero hm0; omega
          rw [dec_big h10, show n / 10 = m by omega, show n % 10 = d by omega, hm]

theorem dec_of (l : List UInt8) (n : Nat) (h : l ≠ []) (hd : Lib.decFrom 0 l = some n) (hz : l.head? = some 48 → l.length = 1) : Lib.decDigits n = l := dec_of_len _ l rfl n h hd hz
/-- The number that plain digits are: of at most 18, none needless ahead; a sign may stand ahead. -/
def magOf (l : List UInt8) (neg : Bool) : Option Nat := if l.length = 0 ∨ 18 < l.length ∨ (l.head? = some 48 ∧ (1 < l.length ∨ neg = true)) then none else Lib.decFrom 0 l
def numOf (l : List UInt8) : Option Int := if l.head? = some 45 then (magOf l.tail true).map fun m => -(m : Int) else (magOf l false).map fun m => (m : Int)
/-- What Atoi hands back: the number, and whether there is no fault. -/
def atoiN (l : List UInt8) : Int := match Lib.atoiAll l with
  | .ok v => v
  | Lib.NumEnd.syntax => 0
  | .range => Lib.atoiSat l
def atoiOk (l : List UInt8) : Bool := match Lib.atoiAll l with
  | .ok _ => true
  | _ => false
def readN (l : List UInt8) : Bool := atoiOk l && decide (Lib.itoa (atoiN l) = l) && decide ((Lib.trimPrefix l [45]).length ≤ 18)

theorem trim_minus (r : List UInt8) : Lib.trimPrefix (45 :: r) [45] = r := by simp [Lib.trimPrefix, Lib.hasPrefix]
theorem trim_plain {l : List UInt8} (h : l.head? ≠ some 45) : Lib.trimPrefix l [45] = l := by
  cases l with
  | nil => simp [Lib.trimPrefix, Lib.hasPrefix]
  | cons c r =>
    have hc : ¬ c = 45 := fun e => h (by rw [e]; rfl)
    simp [Lib.trimPrefix, Lib.hasPrefix, List.isPrefixOf, Ne.symm hc]

theorem magOf_some {l : List UInt8} {neg : Bool} {m : Nat} (h : magOf l neg = some m) : l ≠ [] ∧ l.length ≤ 18 ∧ Lib.decFrom 0 l = some m ∧ (l.head? = some 48 → l.length = 1) ∧ (neg = true → l.head? ≠ some 48) := by
  unfold magOf at h
  split at h
  · cases h
  · rename_i k
    refine ⟨fun e => k (.inl (by rw [e]; rfl)), by omega, h, fun e => ?_, fun e e2 => k (.inr (.inr ⟨e2, .inr e⟩))⟩
    have : l.length ≠ 0 := fun e => k (.inl e)
    have : ¬ 1 < l.length := fun e2 => k (.inr (.inr ⟨e, .inl e2⟩))
    omega
theorem magOf_of {l : List UInt8} {neg : Bool} {m : Nat} (h1 : l ≠ []) (h2 : l.length ≤ 18) (h3 : Lib.decFrom 0 l = some m) (h4 : l.head? = some 48 → l.length = 1) (h5 : neg = true → l.head? ≠ some 48) : magOf l neg = some m := by
  unfold magOf
  rw [if_neg]
  · exact h3
  · rintro (h | h | ⟨ha, h | h⟩)
    · exact h1 (List.length_eq_zero_iff.1 h)
    · omega
    · have := h4 ha; omega
    · exact h5 h ha
/-- THE TWO ARE ONE. -/
theorem readN_some {l : List UInt8} {v : Int} (h : numOf l = some v) : readN l = true ∧ atoiN l = v ∧ Lib.itoa v = l ∧ -999999999999999999 ≤ v ∧ v ≤ 999999999999999999 := by
  have lim : ∀ (r : List UInt8) (m : Nat), r ≠ [] → r.length ≤ 18 → Lib.decDigits m = r → (m : Int) ≤ 999999999999999999 := by
    intro r m _ h2 h3
    have e1 := Lib.decDigits_length m
    rw [h3] at e1
    have e2 := Lib.lt_pow_nDigits m
    have e3 : 10 ^ Lib.nDigits m ≤ 10 ^ 18 := Nat.pow_le_pow_right (by omega) (by omega)
    omega
  unfold numOf at h
  split at h
  · rename_i hh
    cases l with
    | nil => cases hh
    | cons c r =>
      simp at hh
      subst hh
      simp only [List.tail_cons] at h
      cases hm : magOf r true with
      | none => rw [hm] at h; cases h
      | some m =>
        rw [hm] at h
        simp at h
        obtain ⟨h1, h2, h3, h4, h5⟩ := magOf_some hm
        have hd : Lib.decDigits m = r := dec_of r m h1 h3 h4
        have m1 : 1 ≤ m := by
          rcases Nat.eq_zero_or_pos m with e | e
          · subst e; rw [dec_zero] at hd; exact absurd (by rw [← hd]; rfl) (h5 rfl)
          · exact e
        have ea : Lib.atoiAll (45 :: r) = .ok v := by
          rw [Lib.atoiAll_minus, Lib.signed_short h2, Lib.decNat, if_neg (by simpa using h1), h3, ← h]; rfl
        have ei : Lib.itoa v = 45 :: r := by rw [← h, Lib.itoa_neg m m1, hd]
        have en : atoiN (45 :: r) = v := by unfold atoiN; rw [ea]
        have eo : atoiOk (45 :: r) = true := by unfold atoiOk; rw [ea]
        have := lim r m h1 h2 hd
        exact ⟨by unfold readN; rw [en, eo, ei, trim_minus]; simpa using h2, en, ei, by omega, by omega⟩
  · rename_i hh
    cases hm : magOf l false with
    | none => rw [hm] at h; cases h
    | some m =>
      rw [hm] at h
      simp at h
      obtain ⟨h1, h2, h3, h4, h5⟩ := magOf_some hm
      have hd : Lib.decDigits m = l := dec_of l m h1 h3 h4
      have ea : Lib.atoiAll l = .ok v := by
        rw [Lib.atoiAll_short l h2]
        cases l with
        | nil => exact absurd rfl h1
        | cons c r =>
          have c1 : (c == 45) = false := by simp; intro e; exact hh (by rw [e]; rfl)
          have c2 : (c == 43) = false := by
            simp; intro e; subst e
            simp [Lib.decFrom, Lib.digitVal] at h3
          simp only [Lib.atoi, c1, c2, Bool.false_eq_true, if_false]
          rw [Lib.decNat, if_neg (by simp), h3, ← h]; rfl
      have ei : Lib.itoa v = l := by rw [← h, Lib.itoa_nonneg, hd]
      have en : atoiN l = v := by unfold atoiN; rw [ea]
      have eo : atoiOk l = true := by unfold atoiOk; rw [ea]
      have := lim l m h1 h2 hd
      exact ⟨by unfold readN; rw [en, eo, ei, trim_plain hh]; simpa using h2, en, ei, by omega, by omega⟩
theorem readN_none {l : List UInt8} (h : numOf l = none) : readN l = false := by
  cases hr : readN l with
  | false => rfl
  | true =>
    exfalso
    unfold readN at hr
    simp only [Bool.and_eq_true, decide_eq_true_eq] at hr
    obtain ⟨⟨_, hi⟩, hl⟩ := hr
    revert hi
    generalize atoiN l = v
    intro hi
    by_cases hv : v < 0
    · obtain ⟨u, rfl⟩ : ∃ u : Nat, v = -(u : Int) := ⟨v.natAbs, by omega⟩
      rw [Lib.itoa_neg u (by omega)] at hi
      subst hi
      rw [trim_minus] at hl
      have hm : magOf (Lib.decDigits u) true = some u := magOf_of (dec_ne u) hl (decFrom_dec u)
        (fun e => by have := dec_head u 48 (by rw [e]; rfl) rfl; omega) (fun _ e => by have := dec_head u 48 (by rw [e]; rfl) rfl; omega)
      simp [numOf, hm] at h
    · obtain ⟨u, rfl⟩ : ∃ u : Nat, v = (u : Int) := ⟨v.toNat, by omega⟩
      rw [Lib.itoa_nonneg] at hi
      subst hi
      have h45 : (Lib.decDigits u).head? ≠ some 45 := by
        intro e
        have := Lib.digit_of_decFrom _ 0 u (decFrom_dec u) 0 45 (by rw [← List.head?_eq_getElem?]; exact e)
        obtain ⟨d, hd⟩ := this
        simp [Lib.digitVal] at hd
      rw [trim_plain h45] at hl
      have hm : magOf (Lib.decDigits u) false = some u := magOf_of (dec_ne u) hl (decFrom_dec u)
        (fun e => by have := dec_head u 48 (by rw [e]; rfl) rfl; subst this; rw [dec_zero]; rfl) (fun e => by cases e)
      simp [numOf, h45, hm] at h
end Go.Ry
