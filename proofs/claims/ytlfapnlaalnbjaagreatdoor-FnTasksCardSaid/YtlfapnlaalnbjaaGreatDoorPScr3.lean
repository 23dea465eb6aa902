/- ReadScript: the loops, and the law. No condition. -/
import Derived.Test.YtlfapnlaalnbjaaGreatDoorPScr2
set_option linter.unusedVariables false
set_option linter.unusedSimpArgs false
namespace Go.Ry
open Go.Proofs Go.RowKit

@[reducible] def bssO (l : List (List Bool)) : Ob := .row t_Sbool (.slice .bool) l
@[reducible] def scE (c : Int) : Ent := .tup [(false, [.row 0]), (false, [cI c])]
theorem toB1 {c : Int} (h : 0 ≤ c ∧ c ≤ 255) : bytesL (strL [c]) = [c] := by
  unfold bytesL strL
  simp; omega
theorem cutC_len : ∀ l : List UInt8, (cutC l).1.length ≤ l.length ∧ (cutC l).2.1.length ≤ l.length
  | [] => ⟨Nat.le_refl _, Nat.le_refl _⟩
  | c :: r => by
    have := cutC_len r
    rw [cutC]
    split
    · simp
    · simp only [List.length_cons]; omega
theorem rep_snoc {α : Type} (out : List α) (x : α) (k : Nat) : out ++ List.replicate (k + 1) x = (out ++ List.replicate k x) ++ [x] := by
  rw [List.replicate_succ', List.append_assoc]
theorem c_spec_l12Script (s : ByteArray) (h : s.size ≤ 65536) : TT n_spec_l12Script [eS s] [] (scE (scrM (wordsB s) []).2) [bssO (scrM (wordsB s) []).1] := by
  have hw := wordsB_small s
  refine r_spec_l12Script s ⟨_, c_spec_l00Words s (by omega), ?_⟩
  revert hw
  generalize wordsB s = W
  intro hw
  refine ⟨fun m i w out => w = W ∧ 0 ≤ i ∧ i ≤ W.length ∧ m = (W.length - i).toNat ∧ out.length ≤ 4096 ∧ scrM (W.drop i.toNat) out = scrM W [], ⟨_, rfl, by omega, by omega, rfl, by simp, rfl⟩, ?_⟩
  rintro m i w out ⟨rfl, h0, h1, rfl, h2, h3⟩
  refine ifP (fun hlt => ⟨⟨h0, hlt⟩, ?_⟩) (fun hge => ?_)
  · rw [drop_bd (by omega)] at h3
    have hx := hw.1 (w.getD i.toNat ⟨#[]⟩) (getD_mem (by omega))
    obtain ⟨n, b, ok, hc, hh⟩ := c_spec_l12Item (w.getD i.toNat ⟨#[]⟩) (by omega)
    refine ⟨n, b, ok, hc, ?_⟩
    rcases hh with ⟨rfl, hi⟩ | ⟨rfl, c, hi, rfl, hcr, hnr⟩
    · rw [scrM_none hi] at h3
      rw [← h3]; exact ifB_t rfl ⟨rfl, rfl⟩
    rw [scrM_some hi] at h3
    refine ifB_f rfl ?_
    rw [w64 (x := 4096 - (out.length : Int)) (by omega)]
    refine ifP (fun hbig => ?_) (fun hfit => ?_)
    · rw [if_pos hbig] at h3
      rw [← h3]; exact ⟨rfl, rfl⟩
    rw [if_neg hfit] at h3
    refine ⟨fun m' i' n' s' k w' out' => i' = i ∧ n' = n ∧ s' = strL [c] ∧ w' = w ∧ 0 ≤ k ∧ k ≤ n ∧ m' = (n - k).toNat ∧ out' = out ++ List.replicate k.toNat (pinsL c 8), ⟨_, rfl, rfl, rfl, rfl, by omega, by omega, rfl, by simp⟩, ?_⟩
    rintro m' i' n' s' k w' out' ⟨rfl, rfl, rfl, rfl, k0, k1, rfl, rfl⟩
    refine ifP (fun hk => ?_) (fun hk => ?_)
    · have hb : bytesL (strL [c]) = [c] := toB1 hcr
      rw [hb, size_strL, w64 (x := [c].getD (Int.toNat 0) 0) (by show -9223372036854775808 ≤ c ∧ c ≤ 9223372036854775807; omega), w64 (x := k + 1) (by omega)]
      refine ⟨⟨by omega, by simp⟩, _, c_spec_l12Pins c hcr, ?_, _, by omega, rfl, rfl, rfl, rfl, by omega, by omega, rfl, ?_⟩
      · rw [List.length_append, List.length_replicate]; simp; omega
      · rw [toNat_succ k0, rep_snoc]
    · rw [w64 (x := i' + 1) (by omega)]
      have hkn : k.toNat = n'.toNat := by omega
      refine ⟨_, by omega, rfl, by omega, by omega, rfl, by rw [List.length_append, List.length_replicate]; omega, ?_⟩
      rw [toNat_succ h0, hkn]; exact h3
  · rw [List.drop_eq_nil_of_le (by omega)] at h3
    rw [← h3]; exact ⟨rfl, rfl⟩
def scrT (s : ByteArray) : List (List Bool) × Int := if 65536 < (s.size : Int) then ([], 2) else scrM (wordsB s) []
theorem c_spec_ReadScript (s : ByteArray) : TT n_spec_ReadScript [eS s] [] (scE (scrT s).2) [bssO (scrT s).1] := by
  refine r_spec_ReadScript s (ifP (fun h => ?_) (fun h => ?_))
  · rw [show scrT s = _ from if_pos h]; exact ⟨rfl, rfl⟩
  · rw [show scrT s = _ from if_neg h]; exact ⟨_, _, c_spec_l12Script s (by omega), rfl, rfl⟩
/-- What the program's parts say of a word. -/
theorem item_parts (w : ByteArray) : (∀ n b, itemM w = some (n, b) → readN (cutC w.data.toList).1 = true ∧ atoiN (cutC w.data.toList).1 = n ∧ 1 ≤ n ∧ n ≤ 999999999999999999 ∧ (cutC w.data.toList).2.1.length = 2 ∧ hexB ((cutC w.data.toList).2.1.map fun b => (b.toNat : Int)) = some [b] ∧ 0 ≤ b ∧ b ≤ 255) ∧
    (itemM w = none → readN (cutC w.data.toList).1 = true → 1 ≤ atoiN (cutC w.data.toList).1 → (cutC w.data.toList).2.1.length = 2 → hexB ((cutC w.data.toList).2.1.map fun b => (b.toNat : Int)) = none) := by
  rw [itemM_cut]
  generalize (cutC w.data.toList).1 = L1
  generalize (cutC w.data.toList).2.1 = L2
  rcases rd_eq L1 with ⟨k0, k1, k2⟩ | ⟨k0, k1, k2⟩
  · have hv := readN_some k2
    cases hh : hexB (L2.map fun b => (b.toNat : Int)) with
    | none => rw [k2]; exact ⟨fun n b e => (by cases e), fun _ _ _ _ => rfl⟩
    | some m =>
      obtain ⟨q1, q2⟩ := hexB_len hh
      rw [List.length_map] at q1
      rw [k2]
      match m, q1, q2, hh with
      | [], q1, _, _ => exact ⟨fun n b e => (by cases e), fun _ _ _ e => by rw [List.length_nil] at q1; omega⟩
      | [c], q1, q2, hh =>
        refine ⟨fun n b e => ?_, fun e _ e2 _ => ?_⟩
        · simp only at e
          split at e
          · rename_i hn
            have e := Option.some.inj e
            injection e with e1 e2
            subst e1 e2
            exact ⟨k0, rfl, hn, hv.2.2.2.2, by simpa using q1, rfl, q2 c (by simp)⟩
          · cases e
        · simp only at e
          rw [if_pos e2] at e; cases e
      | _ :: _ :: _, q1, _, _ => exact ⟨fun n b e => (by cases e), fun _ _ _ e => by simp only [List.length_cons] at q1; omega⟩
  · rw [k2]
    exact ⟨fun n b e => (by cases e), fun _ e => by rw [k0] at e; cases e⟩
theorem c_impl_readScript (W : List ByteArray) (hw : ∀ x ∈ W, x.size ≤ 65536) (hl : W.length ≤ 1048577) : TT n_impl_readScript [.one (.sl .str W)] [] (scE (scrM W []).2) [bssO (scrM W []).1] := by
  refine r_impl_readScript W ⟨fun m i out => 0 ≤ i ∧ i ≤ W.length ∧ m = (W.length - i).toNat ∧ out.length ≤ 4096 ∧ scrM (W.drop i.toNat) out = scrM W [], ⟨_, rfl, by omega, by omega, rfl, by simp, rfl⟩, ?_⟩
  rintro m i out ⟨h0, h1, rfl, h2, h3⟩
  refine ifP (fun hlt => ⟨⟨h0, hlt⟩, ?_⟩) (fun hge => ?_)
  · rw [drop_bd (by omega)] at h3
    have hx := hw (W.getD i.toNat ⟨#[]⟩) (getD_mem (by omega))
    revert h3 hx
    generalize W.getD i.toNat ⟨#[]⟩ = w
    intro h3 hx
    obtain ⟨p1, p2⟩ := item_parts w
    have hcut := c_Cut w ⟨#[58]⟩ (by omega)
    rw [show (⟨#[58]⟩ : ByteArray).data.toList = [58] from rfl, cut_cutC] at hcut
    have hsz := size_data w
    have l1 : (cutC w.data.toList).1.length ≤ w.size ∧ (cutC w.data.toList).2.1.length ≤ w.size := by rw [hsz]; exact cutC_len _
    have hrd := c_impl_readDecimal ⟨(cutC w.data.toList).1.toArray⟩ (by rw [size_lit]; omega)
    have hby := c_impl_BytesOf ⟨(cutC w.data.toList).2.1.toArray⟩
    have hbl : bytesL ⟨(cutC w.data.toList).2.1.toArray⟩ = (cutC w.data.toList).2.1.map fun b => (b.toNat : Int) := by unfold bytesL; simp
    unfold hexR at hby
    rw [hbl, size_lit] at hby
    simp only [List.toList_toArray] at hrd
    refine ⟨_, _, _, hcut, _, _, hrd, ?_⟩
    rw [size_lit]
    revert p1 p2 hby
    generalize (cutC w.data.toList).1 = L1
    generalize (cutC w.data.toList).2.1 = L2
    intro p1 p2 hby
    cases hi : itemM w with
    | none =>
      rw [scrM_none hi] at h3
      rw [← h3]
      refine ifB_cases (fun _ => ⟨rfl, rfl⟩) (fun b1 => ifP (fun _ => ⟨rfl, rfl⟩) (fun b2 => ifN (fun _ => ⟨rfl, rfl⟩) (fun b3 => ?_)))
      have hz : L2.length = 2 := by omega
      have hh := p2 hi (by simpa using b1) (by omega) hz
      have hby := hby hz
      rw [hh] at hby
      exact ⟨_, _, hby, _, c_impl_when _ _, _, c_first2 _ _, ifN_t (by simp) ⟨rfl, rfl⟩⟩
    | some p =>
      obtain ⟨n, b⟩ := p
      obtain ⟨q1, q2, q3, q3', q4, q5, q6⟩ := p1 n b hi
      rw [scrM_some hi] at h3
      have hby := hby q4
      rw [q5] at hby
      rw [q1, q2, q4]
      refine ifB_f rfl (ifP_f (by omega) (ifN_f (by decide) ⟨_, _, hby, _, c_impl_when _ _, _, c_first2 _ _, ?_⟩))
      rw [w64 (x := 4096 - (out.length : Int)) (by omega)]
      by_cases hbig : n > 4096 - (out.length : Int)
      · rw [if_pos hbig] at h3
        rw [← h3]
        exact ifN_t (by simp [hbig]) ⟨by simp [hbig], rfl⟩
      rw [if_neg hbig] at h3
      refine ifN_f (by simp [hbig]) ?_
      refine ⟨fun m' s' i' _ _ _ _ _ n' k out' => s' = strL [b] ∧ i' = i ∧ n' = n ∧ 0 ≤ k ∧ k ≤ n ∧ m' = (n - k).toNat ∧ out' = out ++ List.replicate k.toNat (pinsL b 8), ⟨_, rfl, rfl, rfl, rfl, by omega, by omega, rfl, by simp⟩, ?_⟩
      rintro m' s' i' _ _ _ _ _ n' k out' ⟨rfl, rfl, rfl, k0, k1, rfl, rfl⟩
      refine ifP (fun hk => ?_) (fun hk => ?_)
      · refine ⟨fun m2 s2 i2 _ _ _ _ _ n2 k2 j o2 r2 => s2 = strL [b] ∧ i2 = i' ∧ n2 = n' ∧ k2 = k ∧ 0 ≤ j ∧ j ≤ 8 ∧ m2 = (8 - j).toNat ∧ o2 = out ++ List.replicate k.toNat (pinsL b 8) ∧ r2 = pinsL b j.toNat, ⟨_, rfl, rfl, rfl, rfl, rfl, by omega, by omega, rfl, rfl, rfl⟩, ?_⟩
        rintro m2 s2 i2 _ _ _ _ _ n2 k2 j o2 r2 ⟨rfl, rfl, rfl, rfl, j0, j1, rfl, rfl, rfl⟩
        refine ifP (fun hj => ?_) (fun hj => ?_)
        · have hb : bytesL (strL [b]) = [b] := toB1 q6
          have hp := pin_i ⟨b.toNat, by omega⟩ ⟨j.toNat, by omega⟩
          simp only [Int.toNat_of_nonneg q6.1] at hp
          rw [hb, show [b].getD (Int.toNat 0) 0 = b from rfl, hp, size_strL, w64 (x := j + 1) (by omega)]
          exact ⟨⟨by omega, by simp⟩, j0, by rw [pinsL_len]; simp; omega, _, by omega, rfl, rfl, rfl, rfl, rfl, by omega, by omega, rfl, rfl, by rw [toNat_succ j0, pinsL_succ]⟩
        · rw [w64 (x := k2 + 1) (by omega), show j.toNat = 8 by omega]
          refine ⟨by rw [List.length_append, List.length_replicate]; simp; omega, _, by omega, rfl, rfl, rfl, rfl, by omega, by omega, rfl, ?_⟩
          rw [toNat_succ k0, rep_snoc]
      · rw [w64 (x := i' + 1) (by omega)]
        have hkn : k.toNat = n'.toNat := by omega
        refine ⟨_, by omega, rfl, by omega, by omega, rfl, by rw [List.length_append, List.length_replicate]; omega, ?_⟩
        rw [toNat_succ h0, hkn]; exact h3
  · rw [List.drop_eq_nil_of_le (by omega)] at h3
    rw [← h3]; exact ⟨rfl, rfl⟩
theorem c_impl_ReadScript (s : ByteArray) : TT n_impl_ReadScript [eS s] [] (scE (scrT s).2) [bssO (scrT s).1] := by
  refine r_impl_ReadScript s ⟨_, c_impl_long s, ifN (fun h => ?_) (fun h => ?_)⟩
  · have h' : 65536 < (s.size : Int) := by
      by_cases k : 65536 < (s.size : Int)
      · exact k
      · rw [if_neg k] at h; exact absurd rfl h
    rw [if_pos h', show scrT s = _ from if_pos h']; exact ⟨rfl, rfl⟩
  · have h' : ¬ 65536 < (s.size : Int) := fun k => by rw [if_pos k] at h; exact absurd h (by decide)
    have hw := wordsB_small s
    rw [show scrT s = _ from if_neg h']
    exact ⟨_, c_impl_words s (by omega), _, _, c_impl_readScript _ (fun x hx => by have := hw.1 x hx; omega) (by omega), rfl, rfl⟩
theorem scrT_ok (s : ByteArray) : okS (scrT s).1 := by
  unfold scrT
  split
  · exact ⟨by simp, fun x hx => by simp at hx⟩
  · exact scrM_ok ⟨by simp, fun x hx => by simp at hx⟩

/-! ### the law's own -/
theorem ss_at {l : List (List Bool)} (h : okS l) {i : Nat} (hi : i < l.length) : (l.getD i ([] : List Bool)).length = 8 := h.2 _ (getD_mem hi)
def cnS (x : List Bool) : Int := x.length
theorem cnS_take {l : List (List Bool)} (h : okS l) {i : Nat} (hi : i ≤ l.length) : cnL cnS (l.take i) = 8 * i := by
  have : ∀ {k : List (List Bool)}, (∀ x ∈ k, x.length = 8) → cnL cnS k = 8 * k.length := by
    intro k
    induction k with
    | nil => intro _; rfl
    | cons x k ih =>
      intro hk
      have h1 := hk x (by simp)
      have h2 := ih (fun y hy => hk y (by simp [hy]))
      simp only [cnL, cnS, List.length_cons, h2, h1]
      omega
  rw [this (fun x hx => h.2 x (List.mem_of_mem_take hx)), List.length_take]
  omega
end Go.Ry
