/- A program's text, the reference's. No condition. -/
import Derived.Test.YtopchiaiefkehaaGreatPSam1
import Derived.Test.YtopchiaiefkehaaGreatPCod0
import Derived.Test.YtopchiaiefkehaaGreatPDat1
set_option linter.unusedVariables false
set_option linter.unusedSimpArgs false
set_option synthInstance.maxSize 4000
namespace Go.Ry
open Go.Proofs

theorem strL_inj {a b : List Int} (ha : isB a) (hb : isB b) (h : strL a = strL b) : a = b := by rw [← toBytes ha, h, toBytes hb]
theorem isB_app {a b : List Int} (ha : isB a) (hb : isB b) : isB (a ++ b) := fun x hx => by
  rcases List.mem_append.1 hx with h | h
  · exact ha x h
  · exact hb x h
theorem isB_flat {α : Type} {f : α → List Int} {l : List α} (h : ∀ x ∈ l, isB (f x)) : isB (l.flatMap f) := fun y hy => by
  obtain ⟨x, hx, hy⟩ := List.mem_flatMap.1 hy
  exact h x hx y hy
theorem takeF {α : Type} {l : List α} {f : α → List Int} {i : Nat} (h : i < l.length) (d : α) : (l.take (i + 1)).flatMap f = (l.take i).flatMap f ++ f (l.getD i d) := by
  rw [take_succ_getD h d, List.flatMap_append]; simp
theorem c_spec_l08Bits (l : List Bool) (hl : l.length = 8) : TT n_spec_l08Bits [.one (.sl .bool l)] [] (eI (bitsN l)) [] := by
  have hb := bitsN_rng (l := l)
  refine r_spec_l08Bits l ⟨fun m n i => -1 ≤ i ∧ i < 8 ∧ m = (i + 1).toNat ∧ n = bitsN (l.drop (i + 1).toNat), ⟨_, rfl, by rw [hl]; decide, by rw [hl]; decide, rfl, by rw [hl]; show 0 = bitsN (l.drop 8); rw [List.drop_eq_nil_of_le (by omega)]; rfl⟩, ?_⟩
  rintro m n i ⟨h0, h1, rfl, rfl⟩
  refine ifP (fun hge => ⟨⟨by omega, by omega⟩, _, c_spec_l06Bit _, ?_⟩) (fun hlt => ?_)
  · have hr := bitsN_rng (l := l.drop (i + 1).toNat)
    have h256 : (2 : Int) ^ (l.drop (i + 1).toNat).length ≤ 256 := by
      have hk : (l.drop (i + 1).toNat).length < 9 := by rw [List.length_drop]; omega
      exact (by decide : ∀ k : Fin 9, (2 : Int) ^ (k : Nat) ≤ 256) ⟨_, hk⟩
    have hd : l.drop i.toNat = l.getD i.toNat false :: l.drop (i + 1).toNat := by rw [drop_getD (by omega) false, toNat_succ hge]
    have e : bitsN (l.drop i.toNat) = bitI (l.getD i.toNat false) + 2 * bitsN (l.drop (i + 1).toNat) := by rw [hd]; rfl
    have hbi : 0 ≤ bitI (l.getD i.toNat false) ∧ bitI (l.getD i.toNat false) ≤ 1 := by unfold bitI; split <;> omega
    rw [w64 (x := 2 * _) (by omega), w64 (x := 2 * bitsN _ + _) (by omega), w64 (x := i - 1) (by omega)]
    refine ⟨_, by omega, rfl, by omega, by omega, rfl, ?_⟩
    rw [show i - 1 + 1 = i by omega, e]; omega
  · rw [show (i + 1).toNat = 0 by omega]; exact ⟨rfl, rfl⟩
theorem c_spec_l01Frame (t : List Int) (ht : t.length ≤ 60000) (hb : isB t) : TT n_spec_l01Frame [eS (strL t)] [] (eS (strL (frmB t))) [] := by
  have e0 : (⟨#[80, 76, 67, 49]⟩ : ByteArray) = strL [80, 76, 67, 49] := by decide
  have hz : (strL t).size = t.length := strL_size t
  have h1 := c_spec_l01Put (t.length : Int) 4 (by simp [isZ])
  have hB : isB ([80, 76, 67, 49] ++ leB t.length 4 ++ t) := isB_app (isB_app (by intro x hx; simp at hx; omega) leB_isB) hb
  have hs := c_spec_l01Sum (strL ([80, 76, 67, 49] ++ leB t.length 4 ++ t)) (by rw [strL_size]; simp [leB_length]; omega)
  rw [toBytes hB] at hs
  have e1 : ((⟨#[80, 76, 67, 49]⟩ : ByteArray) ++ strL (leB t.length 4)) ++ strL t = strL ([80, 76, 67, 49] ++ leB t.length 4 ++ t) := by rw [e0, strL_append, strL_append]
  refine r_spec_l01Frame (strL t) ⟨strL (leB t.length 4), by rw [hz]; exact h1, ?_, ?_, ?_⟩
  · rw [strL_size, leB_length]; decide
  · rw [e0, strL_append, strL_size, strL_size]; simp [leB_length]; omega
  · rw [e1]
    refine ⟨_, hs, _, c_spec_l01Put _ 2 (by simp [isZ]), ?_, ?_, rfl⟩
    · rw [strL_size, strL_size]; simp [leB_length]; omega
    · rw [strL_append]; rfl
theorem rou_at {rs : List Rou} (h : ∀ r ∈ rs, (∀ x ∈ r.1, instrOK x.1 x.2.1 = true) ∧ r.1.length ≤ 40) {i : Nat} (hi : i < rs.length) : (∀ x ∈ (rs.getD i (([] : List Ins), ())).1, instrOK x.1 x.2.1 = true) ∧ (rs.getD i (([] : List Ins), ())).1.length ≤ 40 :=
  h _ (by rw [List.getD_eq_getElem?_getD, List.getElem?_eq_getElem hi]; exact List.getElem_mem _)
theorem progB_isB {ks : List Int} {rs : List Rou} {ts : List Tsk} {sf : List Bool} (h : PrgFit ks rs ts sf) : isB (progB ks rs ts sf) := by
  have b1 := rous_in h.hr
  unfold progB
  refine isB_app (isB_app (isB_app (isB_app (isB_app (isB_app leB_isB (isB_flat fun x _ => leB_isB)) leB_isB) (isB_flat fun r hr => ?_)) leB_isB) (isB_flat fun t _ => ?_)) ?_
  · exact isB_app leB_isB (encL_isB (b1.2 r hr).1)
  · exact isB_app (isB_app (isB_app (isB_app (isB_app leB_isB leB_isB) leB_isB) leB_isB) leB_isB) leB_isB
  · intro x hx; simp at hx; rw [hx, wu8_eq]; omega
theorem c_spec_l08Text (ks : List Int) (rs : List Rou) (ts : List Tsk) (sf : List Bool) (h : PrgFit ks rs ts sf) : TT n_spec_l08Text [prgE ks rs ts sf] [] (eS (strL (frmB (progB ks rs ts sf)))) [] := by
  have a1 := (kinds_in h.hk).1
  have b1 := rous_in h.hr
  have b2 := b1.1
  have d1 := h.ts5
  have lk : ∀ j : Nat, ((ks.take j).flatMap (fun k : Int => leB k 1)).length ≤ 8 := fun j => by
    have := flat_len (f := fun k : Int => leB k 1) (k := 1) (fun x => by rw [leB_length]; exact Nat.le_refl _) (ks.take j)
    have : (ks.take j).length ≤ ks.length := by simp; omega
    omega
  have lr : ∀ j : Nat, ((rs.take j).flatMap rouB).length ≤ 1300 := fun j => by
    have := flat_len' (p := fun r : Rou => (∀ x ∈ r.1, instrOK x.1 x.2.1 = true) ∧ r.1.length ≤ 40) (f := rouB) (k := 202) (fun x hx => by have := encL_len (l := x.1); have := hx.2; unfold rouB; rw [List.length_append, leB_length]; omega) (rs.take j) (fun x hx => b1.2 x (List.mem_of_mem_take hx))
    have : (rs.take j).length ≤ rs.length := by simp; omega
    omega
  have lt : ∀ j : Nat, ((ts.take j).flatMap tskB).length ≤ 70 := fun j => by
    have := flat_len (f := tskB) (k := 12) (fun x => by unfold tskB; simp [leB_length]) (ts.take j)
    have : (ts.take j).length ≤ ts.length := by simp; omega
    omega
  have lK := lk ks.length
  have lR := lr rs.length
  have lT := lt ts.length
  rw [List.take_length] at lK lR lT
  generalize hA : leB (ks.length : Int) 1 ++ ks.flatMap (fun k => leB k 1) = A
  have hAl : A.length ≤ 9 := by rw [← hA, List.length_append, leB_length]; omega
  generalize hB : A ++ leB (rs.length : Int) 1 ++ rs.flatMap rouB = B
  have hBl : B.length ≤ 1310 := by rw [← hB, List.length_append, List.length_append, leB_length]; omega
  generalize hC : B ++ leB (ts.length : Int) 1 ++ ts.flatMap tskB = C
  have hCl : C.length ≤ 1381 := by rw [← hC, List.length_append, List.length_append, leB_length]; omega
  have hP : progB ks rs ts sf = C ++ [IntKind.wrap .u8 (bitsN sf)] := by unfold progB; rw [hA, hB, hC]
  refine r_spec_l08Text ks rs ts sf ⟨_, c_spec_l01Put _ 1 (by simp [isZ]), fun s => s = strL A, ⟨fun m s i => 0 ≤ i ∧ i ≤ ks.length ∧ m = (ks.length - i).toNat ∧ s = strL (leB (ks.length : Int) 1 ++ (ks.take i.toNat).flatMap (fun k => leB k 1)), ⟨_, rfl, by omega, by omega, rfl, by simp⟩, ?_⟩, ?_⟩
  · rintro m s i ⟨h0, h1, rfl, rfl⟩
    refine ifP (fun hlt => ⟨⟨h0, hlt⟩, _, c_spec_l01Put _ 1 (by simp [isZ]), ?_, ?_⟩) (fun hge => ⟨rfl, ?_⟩)
    · have := lk i.toNat
      rw [strL_size, strL_size, List.length_append, leB_length, leB_length]; omega
    · rw [w64 (x := i + 1) (by omega)]
      refine ⟨_, by omega, rfl, by omega, by omega, rfl, ?_⟩
      rw [toNat_succ h0, takeF (f := fun k : Int => leB k 1) (by omega) 0, strL_append, List.append_assoc]
    · rw [← hA, List.take_of_length_le (by omega)]
  rintro s rfl
  refine ⟨_, c_spec_l01Put _ 1 (by simp [isZ]), by rw [strL_size, strL_size, leB_length]; omega, fun s => s = strL B, ⟨fun m s i => 0 ≤ i ∧ i ≤ rs.length ∧ m = (rs.length - i).toNat ∧ s = strL (A ++ leB (rs.length : Int) 1 ++ (rs.take i.toNat).flatMap rouB), ⟨_, rfl, by omega, by omega, rfl, by rw [strL_append]; simp⟩, ?_⟩, ?_⟩
  · rintro m s i ⟨h0, h1, rfl, rfl⟩
    refine ifP (fun hlt => ?_) (fun hge => ⟨rfl, ?_⟩)
    · have hx := rou_at b1.2 (i := i.toNat) (by omega)
      have hn := takeF (f := rouB) (l := rs) (i := i.toNat) (by omega) (([] : List Ins), ())
      have := lr i.toNat
      revert hx hn
      generalize rs.getD i.toNat (([] : List Ins), ()) = x
      intro hx hn
      have hxl := encL_len (l := x.1)
      have hx2 := hx.2
      have hp := c_spec_l01Put ((encL x.1).length : Int) 2 (by simp [isZ])
      rw [w64 (x := i + 1) (by omega)]
      refine ⟨⟨h0, hlt⟩, _, c_spec_l02Bytes x.1 hx.1 hx.2, strL (leB ((encL x.1).length : Int) 2), by rw [strL_size]; exact hp, ?_, ?_, _, by omega, rfl, by omega, by omega, rfl, ?_⟩
      · rw [strL_size, strL_size, leB_length]; omega
      · rw [strL_append, strL_size, strL_size]
        simp only [List.length_append, leB_length]; omega
      · rw [toNat_succ h0, hn, strL_append, strL_append, rouB, List.append_assoc]
    · rw [← hB, List.take_of_length_le (by omega)]
  rintro s rfl
  refine ⟨_, c_spec_l01Put _ 1 (by simp [isZ]), by rw [strL_size, strL_size, leB_length]; omega, fun s => s = strL C, ⟨fun m s i => 0 ≤ i ∧ i ≤ ts.length ∧ m = (ts.length - i).toNat ∧ s = strL (B ++ leB (ts.length : Int) 1 ++ (ts.take i.toNat).flatMap tskB), ⟨_, rfl, by omega, by omega, rfl, by rw [strL_append]; simp⟩, ?_⟩, ?_⟩
  · rintro m s i ⟨h0, h1, rfl, rfl⟩
    refine ifP (fun hlt => ?_) (fun hge => ⟨rfl, ?_⟩)
    · have hn := takeF (f := tskB) (l := ts) (i := i.toNat) (by omega) dTsk
      have := lt i.toNat
      revert hn
      generalize ts.getD i.toNat dTsk = x
      intro hn
      have e : strL (leB x.1 1) ++ strL (leB x.2.1 4) ++ strL (leB x.2.2.1 4) ++ strL (leB x.2.2.2.1 1) ++ strL (leB x.2.2.2.2.1 1) ++ strL (leB x.2.2.2.2.2.1 1) = strL (tskB x) := by
        unfold tskB; simp only [strL_append]
      rw [w64 (x := i + 1) (by omega)]
      refine ⟨⟨h0, hlt⟩, _, c_spec_l01Put _ 1 (by simp [isZ]), _, c_spec_l01Put _ 4 (by simp [isZ]), ?_, _, c_spec_l01Put _ 4 (by simp [isZ]), ?_, _, c_spec_l01Put _ 1 (by simp [isZ]), ?_, _, c_spec_l01Put _ 1 (by simp [isZ]), ?_, _, c_spec_l01Put _ 1 (by simp [isZ]), ?_, ?_, _, by omega, rfl, by omega, by omega, rfl, ?_⟩
      · simp only [strL_append, strL_size, List.length_append, leB_length]; omega
      · simp only [strL_append, strL_size, List.length_append, leB_length]; omega
      · simp only [strL_append, strL_size, List.length_append, leB_length]; omega
      · simp only [strL_append, strL_size, List.length_append, leB_length]; omega
      · simp only [strL_append, strL_size, List.length_append, leB_length]; omega
      · simp only [strL_append, strL_size, List.length_append, leB_length]; omega
      · rw [e, toNat_succ h0, hn, strL_append, List.append_assoc]
    · rw [← hC, List.take_of_length_le (by omega)]
  rintro s rfl
  have hw : wY (bitsN sf) = IntKind.wrap .u8 (bitsN sf) := rfl
  refine ⟨_, c_spec_l08Bits sf h.hs, by rw [strL_size, strL_size]; simp; omega, ?_⟩
  rw [strL_append, hw, ← hP]
  exact ⟨_, c_spec_l01Frame _ (by have := progB_len h; omega) (progB_isB h), rfl, rfl⟩
end Go.Ry
