/- What a code costs. No condition. -/
import Derived.Test.YtopchiaiefkehaaGreatPCost2
set_option linter.unusedVariables false
set_option linter.unusedSimpArgs false
namespace Go.Ry
open Go.Proofs

def sumM (code : List Ins) (known : List Su) (i to : Nat) (out : Su) : Su :=
  if h : i < to then
    if (insAt code i).1 = 26 then
      sumM code known (i + 1) to (beh (beh out (one (cost (insAt code i).1) ((insAt code i).1 == 25))) (known.getD (insAt code i).2.1.toNat ((0 : Int), ((0 : Int), ((0 : Int), ((0 : Int), ((0 : Int), ())))))))
    else if (insAt code i).1 = 21 then
      if hm : i < (matchM code i).2.1 ∧ (matchM code i).2.1 < to ∧ (matchM code i).1 < (matchM code i).2.1 then
        if ho : i < (matchM code i).1 then
          sumM code known ((matchM code i).2.1 + 1) to (beh (beh out (one (cost (insAt code i).1) ((insAt code i).1 == 25)))
            (eith (beh (sumM code known (i + 1) (matchM code i).1 one0) tick) (beh (sumM code known ((matchM code i).1 + 1) (matchM code i).2.1 one0) tick)))
        else
          sumM code known ((matchM code i).2.1 + 1) to (beh (beh out (one (cost (insAt code i).1) ((insAt code i).1 == 25))) (eith (beh (sumM code known (i + 1) (matchM code i).2.1 one0) tick) one0))
      else out
    else if (insAt code i).1 = 24 then
      if hm : i < (matchM code i).2.1 ∧ (matchM code i).2.1 < to then
        sumM code known ((matchM code i).2.1 + 1) to (beh (beh out (one (cost (insAt code i).1) ((insAt code i).1 == 25))) (rep (beh (sumM code known (i + 1) (matchM code i).2.1 one0) tick) (insAt code i).2.1.toNat))
      else out
    else sumM code known (i + 1) to (beh out (one (cost (insAt code i).1) ((insAt code i).1 == 25)))
  else out
termination_by to - i
decreasing_by all_goals omega
theorem sumM_end {code : List Ins} {known : List Su} {i to : Nat} {out : Su} (h : ¬ i < to) : sumM code known i to out = out := by rw [sumM, dif_neg h]
section
variable {code : List Ins} {known : List Su} {i to : Nat} {out : Su} (h : i < to)
include h
theorem sumM_call (h1 : (insAt code i).1 = 26) : sumM code known i to out =
    sumM code known (i + 1) to (beh (beh out (one (cost (insAt code i).1) ((insAt code i).1 == 25))) (known.getD (insAt code i).2.1.toNat ((0 : Int), ((0 : Int), ((0 : Int), ((0 : Int), ((0 : Int), ()))))))) := by
  rw [sumM, dif_pos h, if_pos h1]
theorem sumM_plain (h1 : (insAt code i).1 ≠ 26) (h2 : (insAt code i).1 ≠ 21) (h3 : (insAt code i).1 ≠ 24) : sumM code known i to out = sumM code known (i + 1) to (beh out (one (cost (insAt code i).1) ((insAt code i).1 == 25))) := by
  rw [sumM, dif_pos h, if_neg h1, if_neg h2, if_neg h3]
theorem sumM_if {o e : Nat} (h2 : (insAt code i).1 = 21) (hm : Met code i to o e) (ho : 0 < o) : sumM code known i to out =
    sumM code known (e + 1) to (beh (beh out (one (cost (insAt code i).1) ((insAt code i).1 == 25))) (eith (beh (sumM code known (i + 1) o one0) tick) (beh (sumM code known (o + 1) e one0) tick))) := by
  have h1 := hm.lt
  have h3 := hm.hi
  have h4 : i < o ∧ o < e := by rcases hm.oth with h | h <;> omega
  rw [sumM, dif_pos h, if_neg (by omega), if_pos h2]
  simp only [hm.m]
  rw [dif_pos (by omega), dif_pos h4.1]
theorem sumM_if0 {e : Nat} (h2 : (insAt code i).1 = 21) (hm : Met code i to 0 e) : sumM code known i to out =
    sumM code known (e + 1) to (beh (beh out (one (cost (insAt code i).1) ((insAt code i).1 == 25))) (eith (beh (sumM code known (i + 1) e one0) tick) one0)) := by
  have h1 := hm.lt
  have h3 := hm.hi
  rw [sumM, dif_pos h, if_neg (by omega), if_pos h2]
  simp only [hm.m]
  rw [dif_pos (by omega), dif_neg (by omega)]
theorem sumM_rep {o e : Nat} (h2 : (insAt code i).1 = 24) (hm : Met code i to o e) : sumM code known i to out =
    sumM code known (e + 1) to (beh (beh out (one (cost (insAt code i).1) ((insAt code i).1 == 25))) (rep (beh (sumM code known (i + 1) e one0) tick) (insAt code i).2.1.toNat)) := by
  have h1 := hm.lt
  have h3 := hm.hi
  rw [sumM, dif_pos h, if_neg (by omega), if_neg (by omega), if_pos h2]
  simp only [hm.m]
  rw [dif_pos (by omega)]
end
/-- Instructions whose operands are as they should be, where k routines are known. -/
structure CodeIn (code : List Ins) (k : Nat) : Prop where
  len : code.length ≤ 40
  call : ∀ i, i < code.length → (insAt code i).1 = 26 → 0 ≤ (insAt code i).2.1 ∧ (insAt code i).2.1 < k
  rep : ∀ i, i < code.length → (insAt code i).1 = 24 → 1 ≤ (insAt code i).2.1 ∧ (insAt code i).2.1 ≤ 20
theorem cost_range (op : Int) : 0 ≤ cost op ∧ cost op ≤ 4 := by
  unfold cost
  split
  · omega
  split
  · omega
  split <;> omega
theorem sumM_ok {code : List Ins} {known : List Su} (hc : CodeIn code known.length) (hk : allOk known) : ∀ (N : Nat) {i to : Nat} {out : Su}, to - i ≤ N → Seg code i to → okS out → okS (sumM code known i to out)
  | 0, i, to, out, hn, hs, ho => by rw [sumM_end (by omega)]; exact ho
  | N + 1, i, to, out, hn, hs, ho => by
    by_cases h : i < to
    · have h1 := beh_ok ho (one_ok (n := cost (insAt code i).1) (b := (insAt code i).1 == 25) (by have := cost_range (insAt code i).1; omega))
      have hl := hs.len
      by_cases h2 : (insAt code i).1 = 26
      · rw [sumM_call h h2]
        have := hc.call i (by omega) h2
        exact sumM_ok hc hk N (by omega) (hs.step h (by omega) (by omega)).1 (beh_ok h1 (hk.at (by omega)))
      by_cases h3 : (insAt code i).1 = 21
      · obtain ⟨o, e, hm⟩ := hs.meet h (.inl h3)
        have := hm.lt
        have := hm.hi
        by_cases h0 : 0 < o
        · have h4 : i < o ∧ o < e ∧ Seg code (i + 1) o ∧ Seg code (o + 1) e := by
            rcases hm.oth with h | h
            · omega
            · exact h
          rw [sumM_if h h3 hm h0]
          exact sumM_ok hc hk N (by omega) hm.rest (beh_ok h1 (eith_ok (beh_ok (sumM_ok hc hk N (by omega) h4.2.2.1 one0_ok) tick_ok) (beh_ok (sumM_ok hc hk N (by omega) h4.2.2.2 one0_ok) tick_ok)))
        · have : o = 0 := by omega
          subst this
          rw [sumM_if0 h h3 hm]
          exact sumM_ok hc hk N (by omega) hm.rest (beh_ok h1 (eith_ok (beh_ok (sumM_ok hc hk N (by omega) hm.body one0_ok) tick_ok) one0_ok))
      by_cases h4 : (insAt code i).1 = 24
      · obtain ⟨o, e, hm⟩ := hs.meet h (.inr h4)
        have := hm.lt
        have := hm.hi
        rw [sumM_rep h h4 hm]
        exact sumM_ok hc hk N (by omega) hm.rest (beh_ok h1 (rep_ok (beh_ok (sumM_ok hc hk N (by omega) hm.body one0_ok) tick_ok) _))
      · rw [sumM_plain h h2 h3 h4]
        exact sumM_ok hc hk N (by omega) (hs.step h h3 h4).1 h1
    · rw [sumM_end h]; exact ho
end Go.Ry
