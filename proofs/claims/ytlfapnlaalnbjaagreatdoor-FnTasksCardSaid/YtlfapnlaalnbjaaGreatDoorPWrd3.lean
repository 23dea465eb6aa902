/- Words and numbers of the reference; readDecimal. No condition. -/
import Derived.Test.YtlfapnlaalnbjaaGreatDoorPWrd2
set_option linter.unusedVariables false
set_option linter.unusedSimpArgs false
namespace Go.Ry
open Go.Proofs Go.RowKit

theorem size_data (s : ByteArray) : s.size = s.data.toList.length := by unfold ByteArray.size; rw [Array.length_toList]
theorem ext_data (s : ByteArray) (a b : Nat) : (s.extract a b).data.toList = (s.data.toList.take b).drop a := by
  rw [ByteArray.data_extract, Array.toList_extract, List.extract_eq_take_drop, List.drop_take]
theorem byte_at (s : ByteArray) (i : Nat) : (bytesL s).getD i 0 = ((s.data.toList.getD i 0).toNat : Int) := by
  unfold bytesL
  rw [List.getD_eq_getElem?_getD, List.getD_eq_getElem?_getD, List.getElem?_map]
  cases s.data.toList[i]? <;> rfl
theorem byte_is {s : ByteArray} {i : Nat} (c : UInt8) : ((bytesL s).getD i 0 == (c.toNat : Int)) = (s.data.toList.getD i 0 == c) := by
  rw [byte_at]
  by_cases h : s.data.toList.getD i 0 = c
  · rw [h]; simp
  · rw [beq_eq_false_iff_ne.2 h, beq_eq_false_iff_ne]
    intro e
    exact h (UInt8.toNat_inj.1 (by omega))
theorem drop_at {l : List UInt8} {i : Nat} (h : i < l.length) : l.drop i = l.getD i 0 :: l.drop (i + 1) := by
  rw [List.drop_eq_getElem_cons h, List.getD_eq_getElem?_getD, List.getElem?_eq_getElem h]; rfl
theorem take_at {l : List UInt8} {i : Nat} (h : i < l.length) : l.take (i + 1) = l.take i ++ [l.getD i 0] := by
  rw [List.take_add_one, List.getD_eq_getElem?_getD, List.getElem?_eq_getElem h]; rfl

/-! ### words -/
abbrev mkB (l : List (List UInt8)) : List ByteArray := l.map fun x => ⟨x.toArray⟩
theorem mk_data (s : ByteArray) : (⟨s.data.toList.toArray⟩ : ByteArray) = s := by simp
theorem c_spec_l00Words (s : ByteArray) (h : s.size ≤ 1048576) : TT n_spec_l00Words [eS s] [] (.one (.row 0)) [.row t_string .str (wordsB s)] := by
  have hsz := size_data s
  refine r_spec_l00Words s ⟨fun m f i r => 0 ≤ f ∧ f ≤ i ∧ i ≤ s.size + 1 ∧ m = (s.size + 1 - i).toNat ∧ r.length ≤ i ∧
      (i ≤ s.size → r ++ mkB (wsp ((s.data.toList.take i.toNat).drop f.toNat) (s.data.toList.drop i.toNat)) = wordsB s) ∧ (i = s.size + 1 → r = wordsB s),
    ⟨_, rfl, by omega, by omega, by omega, rfl, by simp, fun _ => by simp [wordsB, mkB], fun e => by omega⟩, ?_⟩
  rintro m f i r ⟨h0, h1, h2, rfl, h3, h4, h5⟩
  refine ifP (fun hle => ?_) (fun hgt => ?_)
  · have h4 := h4 hle
    refine ⟨fun f' i' b r' => f' = f ∧ i' = i ∧ r' = r ∧ b = (decide (i = s.size) || (s.data.toList.getD i.toNat 0 == 32)), ?_, ?_⟩
    · refine ifE (fun e => ⟨rfl, rfl, rfl, rfl, ?_⟩) (fun e => ⟨⟨by omega, by omega⟩, rfl, rfl, rfl, rfl, ?_⟩)
      · rw [e]; simp
      · rw [decide_eq_false e, Bool.false_or]; exact byte_is 32
    · rintro f' i' b r' ⟨rfl, rfl, rfl, rfl⟩
      have hx : (s.extract f'.toNat i'.toNat).data.toList = (s.data.toList.take i'.toNat).drop f'.toNat := ext_data _ _ _
      have hxl : ((s.data.toList.take i'.toNat).drop f'.toNat).length = i'.toNat - f'.toNat := by simp; omega
      -- what comes of a word's end
      have key : (decide (i' = s.size) || (s.data.toList.getD i'.toNat 0 == 32)) = true →
          (i' + 1 ≤ s.size → r' ++ mkB (if (s.data.toList.take i'.toNat).drop f'.toNat = [] then [] else [(s.data.toList.take i'.toNat).drop f'.toNat]) ++ mkB (wsp [] (s.data.toList.drop (i' + 1).toNat)) = wordsB s) ∧
          (i' + 1 = s.size + 1 → r' ++ mkB (if (s.data.toList.take i'.toNat).drop f'.toNat = [] then [] else [(s.data.toList.take i'.toNat).drop f'.toNat]) = wordsB s) := by
        intro hb
        refine ⟨fun hl => ?_, fun hl => ?_⟩
        · rw [decide_eq_false (by omega), Bool.false_or, beq_iff_eq] at hb
          rw [drop_at (l := s.data.toList) (i := i'.toNat) (by omega), hb, wsp_blank, mkB, List.map_append] at h4
          rw [List.append_assoc, toNat_succ (by omega)]; exact h4
        · rw [show s.data.toList.drop i'.toNat = [] from List.drop_eq_nil_of_le (by omega), wsp_nil] at h4
          exact h4
      have w1 : wI (i' + 1) = i' + 1 := w64 (by omega)
      refine ifB_cases (fun hb => ?_) (fun hb => ?_)
      · obtain ⟨k1, k2⟩ := key hb
        refine ifP (fun hgt => ⟨by omega, by simp; omega, ?_⟩) (fun hng => ?_)
        · have hne : ¬ (s.data.toList.take i'.toNat).drop f'.toNat = [] := fun e => by rw [e] at hxl; simp at hxl; omega
          rw [if_neg hne] at k1 k2
          have he : mkB [(s.data.toList.take i'.toNat).drop f'.toNat] = [s.extract f'.toNat i'.toNat] := by
            simp only [mkB, List.map_cons, List.map_nil, ← hx, mk_data]
          rw [he] at k1 k2
          rw [w1]
          refine ⟨_, by omega, rfl, by omega, by omega, by omega, rfl, by simp; omega, fun hl => ?_, fun hl => k2 hl⟩
          have := k1 hl
          rw [List.drop_take, Nat.sub_self, List.take_zero]; exact this
        · have he : (s.data.toList.take i'.toNat).drop f'.toNat = [] := List.eq_nil_of_length_eq_zero (by rw [hxl]; omega)
          rw [if_pos he] at k1 k2
          simp only [mkB, List.map_nil, List.append_nil] at k1 k2
          rw [w1]
          refine ⟨_, by omega, rfl, by omega, by omega, by omega, rfl, by omega, fun hl => ?_, fun hl => k2 hl⟩
          have := k1 hl
          rw [List.drop_take, Nat.sub_self, List.take_zero]; exact this
      · have hb' := hb
        simp only [Bool.or_eq_false_iff, decide_eq_false_iff_not, beq_eq_false_iff_ne] at hb'
        rw [w1]
        refine ⟨_, by omega, rfl, by omega, by omega, by omega, rfl, by omega, fun hl => ?_, fun hl => by omega⟩
        rw [drop_at (l := s.data.toList) (i := i'.toNat) (by omega), wsp_more _ hb'.2] at h4
        rw [toNat_succ (by omega), take_at (by omega), List.drop_append_of_le_length (by simp; omega)]
        exact h4
  · rw [h5 (by omega)]; exact ⟨rfl, rfl⟩

/-! ### numbers -/
theorem c_impl_readDecimal (s : ByteArray) (h : s.size ≤ 1048576) : TT n_impl_readDecimal [eS s] [] (.tup [(false, [cI (atoiN s.data.toList)]), (false, [.bool (readN s.data.toList)])]) [] := by
  have hi : i64 (atoiN s.data.toList) := by
    unfold atoiN i64
    match he : Lib.atoiAll s.data.toList with
    | .ok v => exact Lib.atoiAll_bounds he
    | Lib.NumEnd.syntax => simp only; omega
    | .range => simp only [Lib.atoiSat]; split <;> omega
  have e0 : readN s.data.toList = (atoiOk s.data.toList && decide (Lib.itoa (atoiN s.data.toList) = s.data.toList) && decide ((Lib.trimPrefix s.data.toList [45]).length ≤ 18)) := rfl
  refine r_impl_readDecimal s ⟨_, _, c_Atoi s (by omega), ifB_cases (fun hb => ⟨_, c_impl_decimal _ hi, ?_⟩) (fun hb => ?_)⟩
  · rw [hb, Bool.true_and] at e0
    rw [toList_beq]
    have e1 : itoaB (atoiN s.data.toList) = s ↔ Lib.itoa (atoiN s.data.toList) = s.data.toList := by
      rw [itoaB_eq hi]
      exact ⟨fun e => by have := congrArg (fun x : ByteArray => x.data.toList) e; simpa using this, fun e => by rw [e]⟩
    refine ifP (fun e => ⟨_, c_TrimPrefix s _, ?_, rfl⟩) (fun e => ⟨?_, rfl⟩)
    · rw [decide_eq_true (e1.1 e), Bool.true_and] at e0
      rw [e0, size_lit]
      have : (decide (((Lib.trimPrefix s.data.toList [45]).length : Int) ≤ 18)) = decide ((Lib.trimPrefix s.data.toList [45]).length ≤ 18) := by
        congr 1; exact propext (by omega)
      rw [← this]
    · rw [decide_eq_false (fun x => e (e1.2 x)), Bool.false_and] at e0
      rw [e0]
  · rw [hb] at e0
    simp only [Bool.false_and] at e0
    rw [e0]; exact ⟨rfl, rfl⟩
/-- What the reference hands back. -/
def numR (l : List UInt8) : Int × Bool := match numOf l with
  | some v => (v, true)
  | none => (0, false)
def mR (r : List UInt8) (g : Int) : Int × Bool := match magOf r (decide (g < 0)) with
  | some m => (g * m, true)
  | none => (0, false)
@[reducible] def badN (r : List UInt8) (g : Int) : Prop := r.length = 0 ∨ 18 < r.length ∨ (r.head? = some 48 ∧ (1 < r.length ∨ g < 0))
theorem numR_minus {l : List UInt8} (h : l.head? = some 45) : numR l = mR l.tail (-1) := by
  unfold numR numOf mR
  rw [if_pos h, show decide ((-1 : Int) < 0) = true from rfl]
  cases magOf l.tail true with
  | none => rfl
  | some m => simp
theorem numR_plain {l : List UInt8} (h : ¬ l.head? = some 45) : numR l = mR l 1 := by
  unfold numR numOf mR
  rw [if_neg h, show decide ((1 : Int) < 0) = false from rfl]
  cases magOf l false with
  | none => rfl
  | some m => simp
theorem mR_bad {r : List UInt8} {g : Int} (h : badN r g) : mR r g = (0, false) := by
  unfold mR magOf
  rw [if_pos (by simpa [badN] using h)]
theorem mR_ok {r : List UInt8} {g : Int} (h : ¬ badN r g) : mR r g = match Lib.decFrom 0 r with
    | some m => (g * m, true)
    | none => (0, false) := by
  unfold mR magOf
  rw [if_neg (by simpa [badN] using h)]
theorem digit_is {b : UInt8} (h1 : ¬ b.toNat < 48) (h2 : ¬ 57 < b.toNat) : Lib.digitVal b = some (b.toNat - 48) := by
  unfold Lib.digitVal; rw [if_pos (by omega)]
theorem digit_not {b : UInt8} (h : b.toNat < 48 ∨ 57 < b.toNat) : Lib.digitVal b = none := by
  unfold Lib.digitVal; rw [if_neg (by omega)]
theorem decFrom_bad {r : List UInt8} {i : Nat} (hi : i < r.length) (h : Lib.digitVal (r.getD i 0) = none) : Lib.decFrom 0 r = none := by
  cases hd : Lib.decFrom 0 r with
  | none => rfl
  | some n =>
    obtain ⟨d, e⟩ := Lib.digit_of_decFrom r 0 n hd i (r.getD i 0) (by rw [List.getD_eq_getElem?_getD, List.getElem?_eq_getElem hi]; rfl)
    rw [h] at e; cases e
theorem c_spec_l00Number (s : ByteArray) (h : s.size ≤ 1048576) : TT n_spec_l00Number [eS s] [] (.tup [(false, [cI (numR s.data.toList).1]), (false, [.bool (numR s.data.toList).2])]) [] := by
  have hsz := size_data s
  refine r_spec_l00Number s ⟨fun s' g => (g = 1 ∨ g = -1) ∧ numR s.data.toList = mR s'.data.toList g ∧ s'.size ≤ 1048576, ?_, ?_⟩
  · have no : ¬ s.data.toList.head? = some 45 → (((1 : Int) = 1 ∨ (1 : Int) = -1) ∧ numR s.data.toList = mR s.data.toList 1 ∧ s.size ≤ 1048576) := fun e => ⟨.inl rfl, numR_plain e, h⟩
    refine ifP (fun hp => ⟨by omega, ?_⟩) (fun hz => no (fun e => ?_))
    · have e45 : ((bytesL s).getD (Int.toNat 0) 0 == 45) = (s.data.toList.getD 0 0 == 45) := byte_is 45
      rw [e45]
      have hd : s.data.toList.head? = some (s.data.toList.getD 0 0) := by rw [List.head?_eq_getElem?, List.getD_eq_getElem?_getD, List.getElem?_eq_getElem (by omega)]; rfl
      refine ifB_cases (fun hb => ⟨by omega, ?_⟩) (fun hb => no ?_)
      · rw [beq_iff_eq] at hb
        rw [hb] at hd
        refine ⟨.inr rfl, ?_, by rw [size_extract _ (by omega)]; omega⟩
        rw [numR_minus hd, ext_data, List.take_of_length_le (by omega), show (1 : Int).toNat = 1 from rfl, List.drop_one]
      · rw [beq_eq_false_iff_ne] at hb
        intro e; rw [hd] at e; exact hb (Option.some.inj e)
    · have : s.data.toList.length ≠ 0 := fun e2 => by rw [List.eq_nil_of_length_eq_zero e2] at e; cases e
      omega
  rintro s' g ⟨hg, hR, hs'⟩
  rw [hR]
  have hsz' := size_data s'
  have no : badN s'.data.toList g → cI (mR s'.data.toList g).1 = cI 0 ∧ Cell.bool (mR s'.data.toList g).2 = Cell.bool false := fun e => by rw [mR_bad e]; exact ⟨rfl, rfl⟩
  have bad : ∀ (hb : badN s'.data.toList g), Ent.tup [(false, [cI 0]), (false, [.bool false])] = .tup [(false, [cI (mR s'.data.toList g).1]), (false, [.bool (mR s'.data.toList g).2])] := fun hb => by rw [mR_bad hb]
  refine ⟨fun s2 g2 => s2 = s' ∧ g2 = g ∧ ¬ badN s'.data.toList g, ?_, ?_⟩
  · refine ifE (fun e => ⟨bad (.inl (by omega)), rfl⟩) (fun e0 => ifP (fun e => ⟨bad (.inr (.inl (by omega))), rfl⟩) (fun e1 => ⟨by omega, ?_⟩))
    have e48 : ((bytesL s').getD (Int.toNat 0) 0 == 48) = (s'.data.toList.getD 0 0 == 48) := byte_is 48
    rw [e48]
    have hd : s'.data.toList.head? = some (s'.data.toList.getD 0 0) := by rw [List.head?_eq_getElem?, List.getD_eq_getElem?_getD, List.getElem?_eq_getElem (by omega)]; rfl
    refine ifB_cases (fun hb => ?_) (fun hb => ?_)
    · rw [beq_iff_eq] at hb
      rw [hb] at hd
      refine ifP (fun e => ⟨bad (.inr (.inr ⟨hd, .inl (by omega)⟩)), rfl⟩) (fun e2 => ifP (fun e => ⟨bad (.inr (.inr ⟨hd, .inr e⟩)), rfl⟩) (fun e3 => ⟨rfl, rfl, ?_⟩))
      rintro (x | x | ⟨_, x | x⟩) <;> omega
    · rw [beq_eq_false_iff_ne] at hb
      refine ⟨rfl, rfl, ?_⟩
      rintro (x | x | ⟨x, _⟩)
      · omega
      · omega
      · rw [hd] at x; exact hb (Option.some.inj x)
  rintro s2 g2 ⟨rfl, rfl, hok⟩
  have hm := mR_ok hok
  have hlen : s2.data.toList.length ≤ 18 := Nat.le_of_not_lt (fun e => hok (.inr (.inl e)))
  refine ⟨fun m s3 g3 n i => s3 = s2 ∧ g3 = g2 ∧ 0 ≤ i ∧ i ≤ s2.size ∧ m = (s2.size - i).toNat ∧ 0 ≤ n ∧ n < 10 ^ i.toNat ∧ Lib.decFrom 0 (s2.data.toList.take i.toNat) = some n.toNat, ⟨_, rfl, rfl, by omega, by omega, rfl, by omega, by decide, rfl⟩, ?_⟩
  rintro m s3 g3 n i ⟨rfl, rfl, h0, h1, rfl, h2, h3, h4⟩
  have hp : (10 : Int) ^ i.toNat ≤ 10 ^ 18 := by
    have := Nat.pow_le_pow_right (n := 10) (by omega) (show i.toNat ≤ 18 by omega)
    exact_mod_cast this
  refine ifP (fun hlt => ⟨⟨h0, hlt⟩, ?_⟩) (fun hge => ?_)
  · have hb : (bytesL s3).getD i.toNat 0 = ((s3.data.toList.getD i.toNat 0).toNat : Int) := byte_at _ _
    rw [hb]
    have hno : Lib.digitVal (s3.data.toList.getD i.toNat 0) = none → Ent.tup [(false, [cI 0]), (false, [.bool false])] = .tup [(false, [cI (mR s3.data.toList g3).1]), (false, [.bool (mR s3.data.toList g3).2])] := fun e => by
      rw [hm, decFrom_bad (by omega) e]
    refine ifP (fun e => ⟨hno (digit_not (.inl (by omega))), rfl⟩) (fun e1 => ⟨⟨h0, hlt⟩, ifP (fun e => ⟨hno (digit_not (.inr (by omega))), rfl⟩) (fun e2 => ⟨⟨h0, hlt⟩, ?_⟩)⟩)
    have hp17 : (10 : Int) ^ i.toNat ≤ 10 ^ 17 := by
      have := Nat.pow_le_pow_right (n := 10) (by omega) (show i.toNat ≤ 17 by omega)
      exact_mod_cast this
    have hdg := digit_is (b := s3.data.toList.getD i.toNat 0) (by omega) (by omega)
    have hst := decFrom_app (s3.data.toList.getD i.toNat 0) (s3.data.toList.take i.toNat) 0
    rw [← take_at (by omega), h4, hdg] at hst
    revert hst e1 e2
    generalize (s3.data.toList.getD i.toNat 0).toNat = d
    intro e1 e2 hst
    simp only [Option.bind_some, Option.map_some] at hst
    rw [w64 (x := (d : Int)) (by omega), w64 (x := n * 10) (by omega), w64 (x := n * 10 + d) (by omega), w64 (x := n * 10 + d - 48) (by omega), w64 (x := i + 1) (by omega)]
    refine ⟨_, by omega, rfl, rfl, by omega, by omega, rfl, by omega, ?_, ?_⟩
    · rw [toNat_succ h0, Int.pow_succ]; omega
    · rw [toNat_succ h0, hst]; congr 1; omega
  · rw [List.take_of_length_le (by omega)] at h4
    rw [hm, h4]
    have e : (n.toNat : Int) = n := by omega
    refine ⟨?_, rfl⟩
    show Ent.tup [(false, [cI (wI (g3 * n))]), (false, [.bool true])] = .tup [(false, [cI (g3 * (n.toNat : Int))]), (false, [.bool true])]
    rw [e, w64 (x := g3 * n) (by rcases hg with rfl | rfl <;> omega)]
end Go.Ry
