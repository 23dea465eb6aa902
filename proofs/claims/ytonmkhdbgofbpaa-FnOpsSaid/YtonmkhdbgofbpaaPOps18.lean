/- The law of operations holds: the contract. No condition. -/
import Derived.Test.YtonmkhdbgofbpaaPOps17
set_option linter.unusedVariables false
set_option linter.unusedSimpArgs false
namespace Go.Ry
open Go.Proofs

theorem u8_of {l : List Int} (hw : Ty.wf (.slice (.int .u8)) l) : ∀ n ∈ l, 0 ≤ n ∧ n ≤ 255 := fun n hn => by
  have := hw.2 n hn
  simp only [Ty.wf, Lit.wf, IntKind.min, IntKind.max, IntKind.signed, IntKind.bits, Bool.and_eq_true, decide_eq_true_eq] at this
  simp at this; omega
theorem appM_short (x : Dat) (op a : Int) (A B : List Int) (now : Int) : (appM x op a A B now).2.length ≤ B.length + 1 := by
  have ite : ∀ {c : Prop} [Decidable c] {p q : Dat × List Int}, p.2.length ≤ B.length + 1 → q.2.length ≤ B.length + 1 → (if c then p else q).2.length ≤ B.length + 1 := by
    intro c _ p q hp hq
    split
    · exact hp
    · exact hq
  unfold appM
  repeat' (first | refine ite ?_ ?_ | fail)
  all_goals simp
theorem appRes_short (x : Dat) (op a : Int) (st : List Int) (now : Int) (h : st.length ≤ 100) : (appRes x op a st now).2.length ≤ 101 := by
  unfold appRes
  split
  · have := appM_short x op a (argA x op a st) (argB x op a st) now
    have h2 : (argB x op a st).length ≤ st.length := by simp [argB]
    omega
  · simp
theorem c_laws_FnOps (l1 : List Int) (w1 : Ty.wf (.slice (.int .u8)) l1) (l2 : List Int) (w2 : Ty.wf (.slice (.int .u8)) l2) : TT n_laws_FnOps [.one (.sl u8s l1), .one (.sl u8s l2)] [] (eB true) [] := by
  refine r_laws_FnOps l1 l2 ?_
  unfold v_laws_FnOps
  refine ifP (fun _ => ⟨rfl, rfl⟩) fun k1 => ifP (fun _ => ⟨rfl, rfl⟩) fun k2 => ?_
  have hl1 : l1.length ≤ 1048576 := by omega
  have hl2 : l2.length ≤ 1048576 := by omega
  obtain ⟨x, hD, hk, cD⟩ := c_DataDrawn l1 [1, 2, 3, 4] hl1 (u8_of w1) (by decide) (by decide)
  obtain ⟨op, a, hi, cI'⟩ := c_InstrDrawn l2 hl2 (u8_of w2)
  obtain ⟨v, hv, cV⟩ := c_ValueDrawn l1 hl1 (u8_of w1)
  obtain ⟨b, hb, cb⟩ := c_laws_at l2 0 hl2 (u8_of w2) (by omega)
  obtain ⟨c, hc, cc⟩ := c_laws_at l2 1 hl2 (u8_of w2) (by omega)
  obtain ⟨d, hd, cd⟩ := c_laws_at l2 2 hl2 (u8_of w2) (by omega)
  obtain ⟨e, he, ce⟩ := c_laws_at l2 3 hl2 (u8_of w2) (by omega)
  have hf4 : x.f.length = 4 := by have := congrArg List.length hk; simpa [kindsD] using this
  refine ⟨_, _, _, _, _, _, _, cD, op, a, cI', ?_⟩
  refine ⟨fun w o n g f p q r s => w = x.w ∧ o = op ∧ n = (if op = 19 ∨ op = 20 then Int.tmod a 4 else a) ∧ g = x.g ∧ f = x.f ∧ p = x.a ∧ q = x.b ∧ r = x.c ∧ s = x.d, ?_, ?_⟩
  · exact ifE (fun e19 => ⟨by omega, rfl, rfl, rfl, by simp [e19], rfl, rfl, rfl, rfl, rfl, rfl⟩) fun n19 => ifE (fun e20 => ⟨by omega, rfl, rfl, rfl, by simp [e20], rfl, rfl, rfl, rfl, rfl, rfl⟩) fun n20 => ⟨rfl, rfl, rfl, by simp [n19, n20], rfl, rfl, rfl, rfl, rfl, rfl⟩
  · rintro w o n g f p q r s ⟨rfl, rfl, hn, rfl, rfl, rfl, rfl, rfl, rfl⟩
    have hi' : instrOK o n = true ∧ (o = 19 ∨ o = 20 → n < x.f.length) := by
      by_cases h : o = 19 ∨ o = 20
      · rw [if_pos h] at hn
        have hr : rangeOf o = (0, 7, true) := by rcases h with rfl | rfl <;> rfl
        have h0 := hi
        simp only [instrOK, hr, Bool.and_eq_true, within_iff] at h0 ⊢
        obtain ⟨b0, b1⟩ := tmod_rng (a := a) (b := 4) (by omega) (by omega)
        exact ⟨⟨h0.1, by omega, by omega⟩, fun _ => by omega⟩
      · rw [if_neg h] at hn
        rw [hn]
        exact ⟨hi, fun k => absurd k h⟩
    obtain ⟨hi1, ha1⟩ := hi'
    have hg : x.g.length ≤ 1048576 := by have := hD.g; omega
    have hs : (stk v b c d e).length ≤ 1048576 := by simp
    obtain ⟨k1, k2⟩ := app_cut hD hv hb hc hd he
    have cc1 := c_impl_ApplyOp x o n (stk v b c d e) 9 hg hs
    have cc2 := c_spec_ApplyOp x o n (stk v b c d e) 9 hs
    have cc3 := c_impl_ApplyOp x 25 0 (stk v b c d e) 9 hg hs
    rw [k1, k2] at cc3
    refine ⟨v, cV, b, cb, c, cc, d, cd, e, ce, _, _, _, _, _, _, _, _, _, cc1, _, _, _, _, _, _, _, _, _, cc2, ifN_f rfl ?_⟩
    rcases app_ok hD hi1 ha1 hv hb hc hd he with h | ⟨h, hD', t, ht⟩
    · rw [h]
      exact ifN_t (by decide) ⟨rfl, rfl⟩
    have hlen := appRes_short x o n (stk v b c d e) 9 (by simp)
    have cS := c_impl_SameData _ hD'
    have cI := c_laws_sameInts (appRes x o n (stk v b c d e) 9).2 (by omega)
    have cO := c_impl_DataOK (appRes x o n (stk v b c d e) 9).1 (by have := hD'.g; omega)
    rw [datOK_iff.2 hD'] at cO
    have cI2 := c_laws_sameInts (stk v b c d e) hs
    have cS2 := c_impl_SameData x hD
    refine ifN_f h ⟨_, _, _, _, _, _, _, _, _, cc3, true, cS, ifB_t rfl ⟨true, cI, ifB_t rfl ?_⟩⟩
    rw [ht]
    have fin : ∃ b56 : Bool, TT n_impl_DataOK [.agg (appRes x o n (stk v b c d e) 9).1.cs] [] (eB b56) [] ∧ b56 = true := ⟨true, cO, rfl⟩
    refine ifP_t (by simp; omega) ⟨⟨by decide, by simp; omega⟩, ifE_t rfl ⟨⟨by decide, by simp; omega⟩, ⟨by decide, by simp⟩, ?_⟩⟩
    exact ⟨ifE_t rfl ⟨true, cO, ifB_t rfl (ifE_t rfl ⟨true, cI2, ifB_t rfl ⟨true, cS2, rfl, rfl⟩, ifB_t rfl ⟨true, cS2, rfl, rfl⟩⟩)⟩,
      ifE_t rfl ⟨true, cO, ifB_t rfl (ifE_t rfl ⟨true, cI2, ifB_t rfl ⟨true, cS2, rfl, rfl⟩, ifB_t rfl ⟨true, cS2, rfl, rfl⟩⟩)⟩⟩
end Go.Ry
