/- A program's text, the program's own; without tasks. No condition. -/
import Derived.Test.YtopchiaiefkehaaGreatPImr1
import Derived.Test.YtopchiaiefkehaaGreatPWrt1
import Derived.Test.YtopchiaiefkehaaGreatPSmp2
set_option linter.unusedVariables false
set_option linter.unusedSimpArgs false
set_option synthInstance.maxSize 4000
namespace Go.Ry
open Go.Proofs

theorem bit_all2 : ∀ i : Fin 8, ∀ a b c d e f g h : Bool, bits .or .i64 (bitsN ([a, b, c, d, e, f, g, h].take i.val)) (wI (bitI ([a, b, c, d, e, f, g, h].getD i.val false) * 2 ^ min (Int.toNat (i.val : Int)) (IntKind.bits .i64))) = bitsN ([a, b, c, d, e, f, g, h].take (i.val + 1)) := by decide +kernel
theorem bit_put {sf : List Bool} (h : sf.length = 8) {i : Int} (h0 : 0 ≤ i) (h1 : i < 8) : bits .or .i64 (bitsN (sf.take i.toNat)) (wI (bitI (sf.getD i.toNat false) * 2 ^ min (Int.toNat i) (IntKind.bits .i64))) = bitsN (sf.take (i + 1).toNat) := by
  match sf, h with
  | [a, b, c, d, e, f, g, k], _ =>
    have := bit_all2 ⟨i.toNat, by omega⟩ a b c d e f g k
    rw [show ((⟨i.toNat, by omega⟩ : Fin 8).val : Int) = i by simp; omega] at this
    rw [toNat_succ h0]; exact this
theorem c_impl_FrameText (t : List Int) (ht : t.length ≤ 60000) (hb : isB t) : TT n_impl_FrameText [eS (strL t)] [] (strI (strL (frmB t)) 0) [] := by
  have e0 : (⟨#[80, 76, 67, 49]⟩ : ByteArray) = strL [80, 76, 67, 49] := by decide
  have hz : (strL t).size = t.length := strL_size t
  have h1 := c_impl_put (t.length : Int) 4 (by simp [isZ])
  have hB : isB ([80, 76, 67, 49] ++ leB t.length 4 ++ t) := isB_app (isB_app (by intro x hx; simp at hx; omega) leB_isB) hb
  have hs := c_impl_SumOf (strL ([80, 76, 67, 49] ++ leB t.length 4 ++ t)) (by rw [strL_size]; simp [leB_length]; omega)
  rw [toBytes hB] at hs
  have e1 : ((⟨#[80, 76, 67, 49]⟩ : ByteArray) ++ strL (leB t.length 4)) ++ strL t = strL ([80, 76, 67, 49] ++ leB t.length 4 ++ t) := by rw [e0, strL_append, strL_append]
  have hlg := c_impl_long (strL t)
  rw [if_neg (by omega)] at hlg
  have hwn := c_impl_when (decide (((strL t).size : Int) > 65526)) 8
  rw [if_neg (by simp; omega)] at hwn
  refine r_impl_FrameText (strL t) ⟨_, hlg, _, hwn, _, c_impl_first _ (by simp), ifN_f rfl ⟨strL (leB t.length 4), by rw [hz]; exact h1, ?_, ?_, ?_⟩⟩
  · rw [strL_size, leB_length]; decide
  · rw [e0, strL_append, strL_size, strL_size]; simp [leB_length]; omega
  · rw [e1]
    refine ⟨_, hs, _, c_impl_put _ 2 (by simp [isZ]), ?_, ?_, rfl⟩
    · rw [strL_size, strL_size]; simp [leB_length]; omega
    · rw [strL_append]; rfl
theorem c_impl_ImageText (ks : List Int) (rs : List Rou) (ts : List Tsk) (sf : List Bool) (hsm : prgSmall ks rs ts sf) (hok : prgOK ks rs ts sf = true) : TT n_impl_ImageText [prgE ks rs ts sf] [] (strI (imgB ks rs ts sf) 0) [] := by
  have h := prgOK_fit hok
  have hip := c_impl_isProgram ks rs ts sf hsm
  rw [hok] at hip
  have a1 := (kinds_in h.hk).1
  have b1 := rous_in h.hr
  have b2 := b1.1
  have d1 := h.ts5
  have lk : ∀ j : Nat, ((ks.take j).flatMap (fun k : Int => leB k 1)).length ≤ 8 := fun j => by
    have := flat_len (f := fun k : Int => leB k 1) (k := 1) (fun x => by rw [leB_length]; exact Nat.le_refl _) (ks.take j)
    have : (ks.take j).length ≤ ks.length := by simp; omega
    omega
  have lr : ∀ j : Nat, ((rs.take j).flatMap rouB).length ≤ 1300 := fun j => by
    have := flat_len' (p := fun r : Rou => (∀ x ∈ r.1, instrOK x.1 x.2.1 = true) ∧ r.1.length ≤ 40) (f := rouB) (k := 202) (fun x hx => by have := encL_len (l := x.1); have := hx.2; unfold rouB; rw [List.length_append, leB_length]; omega) (rs.take j) (fun x hx => b1.2 x (List.mem_of_mem_take hx))
    have : (rs.take j).length ≤ rs.length := by simp; omega
    omega
  have lt : ∀ j : Nat, ((ts.take j).flatMap tskB).length ≤ 70 := fun j => by
    have := flat_len (f := tskB) (k := 12) (fun x => by unfold tskB; simp [leB_length]) (ts.take j)
    have : (ts.take j).length ≤ ts.length := by simp; omega
    omega
  have lK := lk ks.length
  have lR := lr rs.length
  have lT := lt ts.length
  rw [List.take_length] at lK lR lT
  generalize hA : leB (ks.length : Int) 1 ++ ks.flatMap (fun k => leB k 1) = A
  have hAl : A.length ≤ 9 := by rw [← hA, List.length_append, leB_length]; omega
  generalize hB : A ++ leB (rs.length : Int) 1 ++ rs.flatMap rouB = B
  have hBl : B.length ≤ 1310 := by rw [← hB, List.length_append, List.length_append, leB_length]; omega
  generalize hC : B ++ leB (ts.length : Int) 1 ++ ts.flatMap tskB = C
  have hCl : C.length ≤ 1381 := by rw [← hC, List.length_append, List.length_append, leB_length]; omega
  have hP : progB ks rs ts sf = C ++ [IntKind.wrap .u8 (bitsN sf)] := by unfold progB; rw [hA, hB, hC]
  refine r_impl_ImageText ks rs ts sf ⟨_, hip, ifB_f rfl ⟨_, c_impl_put _ 1 (by simp [isZ]), fun s => s = strL A, ⟨fun m s i => 0 ≤ i ∧ i ≤ ks.length ∧ m = (ks.length - i).toNat ∧ s = strL (leB (ks.length : Int) 1 ++ (ks.take i.toNat).flatMap (fun k => leB k 1)), ⟨_, rfl, rfl, by omega, by omega, rfl, by simp⟩, ?_⟩, ?_⟩⟩
  · rintro m s i ⟨h0, h1, rfl, rfl⟩
    refine ifP (fun hlt => ⟨⟨h0, hlt⟩, _, c_impl_put _ 1 (by simp [isZ]), ?_, ?_⟩) (fun hge => ⟨rfl, ?_⟩)
    · have := lk i.toNat
      rw [strL_size, strL_size, List.length_append, leB_length, leB_length]; omega
    · rw [w64 (x := i + 1) (by omega)]
      refine ⟨_, by omega, rfl, rfl, by omega, by omega, rfl, ?_⟩
      rw [toNat_succ h0, takeF (f := fun k : Int => leB k 1) (by omega) 0, strL_append, List.append_assoc]
    · rw [← hA, List.take_of_length_le (by omega)]
  rintro s rfl
  refine ⟨_, c_impl_put _ 1 (by simp [isZ]), by rw [strL_size, strL_size, leB_length]; omega, fun s => s = strL B, ⟨fun m s i => 0 ≤ i ∧ i ≤ rs.length ∧ m = (rs.length - i).toNat ∧ s = strL (A ++ leB (rs.length : Int) 1 ++ (rs.take i.toNat).flatMap rouB), ⟨_, rfl, rfl, by omega, by omega, rfl, by rw [strL_append]; simp⟩, ?_⟩, ?_⟩
  · rintro m s i ⟨h0, h1, rfl, rfl⟩
    refine ifP (fun hlt => ?_) (fun hge => ⟨rfl, ?_⟩)
    · have hx := rou_at b1.2 (i := i.toNat) (by omega)
      have hn := takeF (f := rouB) (l := rs) (i := i.toNat) (by omega) (([] : List Ins), ())
      have := lr i.toNat
      revert hx hn
      generalize rs.getD i.toNat (([] : List Ins), ()) = x
      intro hx hn
      have hxl := encL_len (l := x.1)
      have hx2 := hx.2
      have hp := c_impl_put ((encL x.1).length : Int) 2 (by simp [isZ])
      rw [w64 (x := i + 1) (by omega)]
      refine ⟨⟨h0, hlt⟩, _, c_impl_codeText x.1 hx.1 hx.2, strL (leB ((encL x.1).length : Int) 2), by rw [strL_size]; exact hp, ?_, ?_, _, by omega, rfl, rfl, by omega, by omega, rfl, ?_⟩
      · rw [strL_size, strL_size, leB_length]; omega
      · rw [strL_append, strL_size, strL_size]
        simp only [List.length_append, leB_length]; omega
      · rw [toNat_succ h0, hn, strL_append, strL_append, rouB, List.append_assoc]
    · rw [← hB, List.take_of_length_le (by omega)]
  rintro s rfl
  refine ⟨_, c_impl_put _ 1 (by simp [isZ]), by rw [strL_size, strL_size, leB_length]; omega, fun s => s = strL C, ⟨fun m s i => 0 ≤ i ∧ i ≤ ts.length ∧ m = (ts.length - i).toNat ∧ s = strL (B ++ leB (ts.length : Int) 1 ++ (ts.take i.toNat).flatMap tskB), ⟨_, rfl, rfl, by omega, by omega, rfl, by rw [strL_append]; simp⟩, ?_⟩, ?_⟩
  · rintro m s i ⟨h0, h1, rfl, rfl⟩
    refine ifP (fun hlt => ?_) (fun hge => ⟨rfl, ?_⟩)
    · have hn := takeF (f := tskB) (l := ts) (i := i.toNat) (by omega) dTsk
      have := lt i.toNat
      revert hn
      generalize ts.getD i.toNat dTsk = x
      intro hn
      have e : strL (leB x.1 1) ++ strL (leB x.2.1 4) ++ strL (leB x.2.2.1 4) ++ strL (leB x.2.2.2.1 1) ++ strL (leB x.2.2.2.2.1 1) ++ strL (leB x.2.2.2.2.2.1 1) = strL (tskB x) := by
        unfold tskB; simp only [strL_append]
      rw [w64 (x := i + 1) (by omega)]
      refine ⟨⟨h0, hlt⟩, _, c_impl_put _ 1 (by simp [isZ]), _, c_impl_put _ 4 (by simp [isZ]), ?_, _, c_impl_put _ 4 (by simp [isZ]), ?_, _, c_impl_put _ 1 (by simp [isZ]), ?_, _, c_impl_put _ 1 (by simp [isZ]), ?_, _, c_impl_put _ 1 (by simp [isZ]), ?_, ?_, _, by omega, rfl, rfl, by omega, by omega, rfl, ?_⟩
      · simp only [strL_append, strL_size, List.length_append, leB_length]; omega
      · simp only [strL_append, strL_size, List.length_append, leB_length]; omega
      · simp only [strL_append, strL_size, List.length_append, leB_length]; omega
      · simp only [strL_append, strL_size, List.length_append, leB_length]; omega
      · simp only [strL_append, strL_size, List.length_append, leB_length]; omega
      · simp only [strL_append, strL_size, List.length_append, leB_length]; omega
      · rw [e, toNat_succ h0, hn, strL_append, List.append_assoc]
    · rw [← hC, List.take_of_length_le (by omega)]
  rintro s rfl
  refine ⟨fun s n => s = strL C ∧ n = bitsN sf, ⟨fun m s n i => s = strL C ∧ 0 ≤ i ∧ i ≤ sf.length ∧ m = (sf.length - i).toNat ∧ n = bitsN (sf.take i.toNat), ⟨_, rfl, rfl, by omega, by omega, rfl, rfl⟩, ?_⟩, ?_⟩
  · rintro m s n i ⟨rfl, h0, h1, rfl, rfl⟩
    refine ifP (fun hlt => ⟨⟨h0, hlt⟩, _, c_impl_bit _, h0, ?_⟩) (fun hge => ⟨rfl, ?_⟩)
    · have h8 := h.hs
      rw [w64 (x := i + 1) (by omega), bit_put h8 h0 (by omega)]
      exact ⟨_, by omega, rfl, rfl, by omega, by omega, rfl, rfl⟩
    · rw [List.take_of_length_le (by omega)]
  rintro s n ⟨rfl, rfl⟩
  have hl := progB_len h
  have hT : strL C ++ strL (leB (bitsN sf) 1) = strL (progB ks rs ts sf) := by rw [strL_append, hP]; rfl
  refine ⟨_, c_impl_put _ 1 (by simp [isZ]), by rw [strL_size, strL_size, leB_length]; omega, ?_⟩
  rw [hT]
  exact ⟨_, _, c_impl_FrameText _ (by omega) (progB_isB h), rfl, rfl⟩

/-! ### no tasks -/
@[reducible] def prgN (ks : List Int) (rs : List Rou) (sf : List Bool) : Ent := .agg [.sl tyInt ks, .sl tRou rs, .nils, .sl .bool sf]
theorem prgOK_parts {ks : List Int} {rs : List Rou} {ts : List Tsk} {sf : List Bool} (h : prgOK ks rs ts sf = true) : kindsOK ks = true ∧ rousOK rs = true ∧ sf.length = 8 ∧ (verAllM ks rs 0).2.2 = 0 := by
  have h : (checkM ks rs ts sf).2 = 0 := by simpa [prgOK] using h
  unfold checkM at h
  split at h
  · cases h
  · rename_i h1
    split at h
    · cases h
    · rename_i h2
      split at h
      · cases h
      · rename_i h3
        split at h
        · rename_i h4; exact absurd h h4
        · rename_i h4
          exact ⟨by simpa using h1, by simpa using h2, by omega, by simpa using h4⟩
end Go.Ry
