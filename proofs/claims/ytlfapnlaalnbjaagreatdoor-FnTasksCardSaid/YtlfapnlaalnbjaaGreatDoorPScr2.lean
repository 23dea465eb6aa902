/- ReadScript: contracts. No condition. -/
import Derived.Test.YtlfapnlaalnbjaaGreatDoorPScr1
import Derived.Test.YtlfapnlaalnbjaaGreatDoorPRtk1
import Derived.Test.YtlfapnlaalnbjaaGreatDoorPMarkTi
import Derived.Test.YtlfapnlaalnbjaaGreatDoorPMkL
set_option linter.unusedVariables false
set_option linter.unusedSimpArgs false
namespace Go.Ry
open Go.Proofs Go.RowKit

theorem byte_rng (s : ByteArray) (i : Nat) : 0 ≤ (bytesL s).getD i 0 ∧ (bytesL s).getD i 0 ≤ 255 := by
  have := bytes_range (s := s) (i := i)
  omega
theorem u8_id {x : Int} (h : 0 ≤ x ∧ x ≤ 255) : wY x = x := by
  show IntKind.wrap .u8 x = x
  simp [IntKind.wrap, IntKind.signed, IntKind.bits]; omega
theorem size_strL (l : List Int) : (strL l).size = l.length := by simp [strL, ByteArray.size]

/-! ### digits of base 16 -/
theorem c_spec_l00Digit (c : Int) : TT n_spec_l00Digit [.one (cY c)] [] (eB (decide (48 ≤ c ∧ c ≤ 57))) [] :=
  r_spec_l00Digit c (ifP (fun h => ⟨by congr 1; exact decide_eq_decide.2 ⟨fun e => ⟨h, e⟩, fun e => e.2⟩, rfl⟩) (fun h => ⟨by rw [decide_eq_false (fun e => h e.1)], rfl⟩))
theorem c_spec_l01Digit (c : Int) (h : 0 ≤ c ∧ c ≤ 255) : TT n_spec_l01Digit [.one (cY c)] [] (eI ((hexV c).getD (-1))) [] := by
  refine r_spec_l01Digit c ⟨_, c_spec_l00Digit c, ifP (fun h1 => ⟨?_, rfl⟩) (fun h1 => ifP (fun h2 => ifP (fun h3 => ⟨?_, rfl⟩) (fun h3 => ⟨?_, rfl⟩)) (fun h2 => ⟨?_, rfl⟩))⟩
  · unfold hexV
    rw [if_pos h1, w64 (x := c) (by omega), w64 (x := c - 48) (by omega)]; rfl
  · unfold hexV
    rw [if_neg h1, if_pos ⟨h2, h3⟩, w64 (x := c) (by omega), w64 (x := c - 87) (by omega)]; rfl
  · unfold hexV
    rw [if_neg h1, if_neg (fun e => h3 e.2)]; rfl
  · unfold hexV
    rw [if_neg h1, if_neg (fun e => h2 e.1)]; rfl
theorem c_impl_hexDigit (c : Int) (h : 0 ≤ c ∧ c ≤ 255) : TT n_impl_hexDigit [.one (cY c)] [] (.one (cY ((hexV c).getD 16))) [] := by
  refine r_impl_hexDigit c ⟨fun b => b = decide (48 ≤ c ∧ c ≤ 57), ifP (fun h1 => ⟨rfl, decide_eq_decide.2 ⟨fun e => ⟨h1, e⟩, fun e => e.2⟩⟩) (fun h1 => ⟨rfl, by rw [decide_eq_false (fun e => h1 e.1)]⟩), ?_⟩
  rintro b rfl
  refine ifP (fun h1 => ⟨?_, rfl⟩) (fun h1 => ifP (fun h2 => ifP (fun h3 => ⟨?_, rfl⟩) (fun h3 => ⟨?_, rfl⟩)) (fun h2 => ⟨?_, rfl⟩))
  · unfold hexV
    rw [if_pos h1, u8_id (x := c - 48) (by omega)]; rfl
  · unfold hexV
    rw [if_neg h1, if_pos ⟨h2, h3⟩, u8_id (x := c - 97) (by omega), u8_id (x := c - 97 + 10) (by omega), show c - 97 + 10 = c - 87 by omega]; rfl
  · unfold hexV
    rw [if_neg h1, if_neg (fun e => h3 e.2)]; rfl
  · unfold hexV
    rw [if_neg h1, if_neg (fun e => h2 e.1)]; rfl
theorem hex_or : ∀ h l : Fin 16, bits .or .u8 (wY ((h : Int) * 2 ^ min (Int.toNat 4) (IntKind.bits .u8))) (l : Int) = 16 * (h : Int) + (l : Int) := by decide +kernel
theorem hex_or' {h l : Int} (h1 : 0 ≤ h ∧ h ≤ 15) (h2 : 0 ≤ l ∧ l ≤ 15) : bits .or .u8 (wY (h * 2 ^ min (Int.toNat 4) (IntKind.bits .u8))) l = 16 * h + l := by
  have := hex_or ⟨h.toNat, by omega⟩ ⟨l.toNat, by omega⟩
  simp only [Int.toNat_of_nonneg h1.1, Int.toNat_of_nonneg h2.1] at this
  exact this
theorem hexB_fail {a b : Int} {r : List Int} (h : hexV a = none ∨ hexV b = none) : hexB (a :: b :: r) = none := by
  rw [hexB_two]
  rcases h with h | h <;> rw [h]
  cases hexV a <;> rfl
theorem hexB_go {a b h l : Int} {r : List Int} (h1 : hexV a = some h) (h2 : hexV b = some l) : hexB (a :: b :: r) = (hexB r).map ((16 * h + l) :: ·) := by rw [hexB_two, h1, h2]
theorem hexV_cases (c : Int) : (hexV c = none ∧ (hexV c).getD (-1) = -1 ∧ (hexV c).getD 16 = 16) ∨ ∃ h, hexV c = some h ∧ (hexV c).getD (-1) = h ∧ (hexV c).getD 16 = h ∧ 0 ≤ h ∧ h ≤ 15 := by
  cases e : hexV c with
  | none => exact .inl ⟨rfl, rfl, rfl⟩
  | some h => exact .inr ⟨h, rfl, rfl, rfl, hexV_rng e⟩
theorem drop_two {l : List Int} {i : Nat} (h : i + 1 < l.length) : l.drop i = l.getD i 0 :: l.getD (i + 1) 0 :: l.drop (i + 2) := by
  rw [drop_getD (by omega) 0, drop_getD (l := l) (i := i + 1) h 0]
@[reducible] def hexR (s : ByteArray) : ByteArray := strL ((hexB (bytesL s)).getD [])
theorem c_spec_l01Bytes (s : ByteArray) (h : s.size ≤ 1048576) : TT n_spec_l01Bytes [eS s] [] (.tup [(false, [.str (hexR s)]), (false, [.bool (hexB (bytesL s)).isSome])]) [] := by
  have hsz := bytesL_size s
  have ht : Int.tmod (s.size : Int) 2 = (s.size : Int) % 2 := Int.tmod_eq_emod_of_nonneg (by omega)
  refine r_spec_l01Bytes s ⟨by decide, ?_⟩
  rw [ht]
  have no : hexB (bytesL s) = none → Ent.tup [(false, [.str (⟨#[]⟩ : ByteArray)]), (false, [.bool false])] = .tup [(false, [.str (hexR s)]), (false, [.bool (hexB (bytesL s)).isSome])] := fun e => by unfold hexR; rw [e]; rfl
  refine ifN (fun e => ⟨no (hexB_odd (by omega)), rfl⟩) (fun e => ?_)
  refine ⟨fun m i r => 0 ≤ i ∧ i ≤ s.size ∧ i % 2 = 0 ∧ m = (s.size - i).toNat ∧ r.length ≤ i ∧ (hexB ((bytesL s).drop i.toNat)).map (r ++ ·) = hexB (bytesL s), ⟨_, rfl, by omega, by omega, by omega, rfl, by simp, by simp⟩, ?_⟩
  rintro m i r ⟨h0, h1, h2, rfl, h3, h4⟩
  refine ifP (fun hlt => ?_) (fun hge => ?_)
  · rw [w64 (x := i + 1) (by omega), w64 (x := i + 2) (by omega), show Int.toNat (i + 1) = i.toNat + 1 by omega]
    rw [drop_two (by omega)] at h4
    have ra := byte_rng s i.toNat
    have rb := byte_rng s (i.toNat + 1)
    have ca := c_spec_l01Digit _ ra
    have cb := c_spec_l01Digit _ rb
    rw [show i.toNat + 2 = (i + 2).toNat by omega] at h4
    revert h4 ca cb
    generalize (bytesL s).getD i.toNat 0 = a
    generalize (bytesL s).getD (i.toNat + 1) 0 = b
    intro h4 ca cb
    refine ⟨⟨h0, hlt⟩, _, ca, ⟨by omega, by omega⟩, _, cb, ?_⟩
    rcases hexV_cases a with ⟨k1, k2, _⟩ | ⟨x, k1, k2, _, k3⟩
    · rw [hexB_fail (.inl k1)] at h4
      rw [k2]; exact ifP_t (by omega) ⟨no (by rw [← h4]; rfl), rfl⟩
    rw [k2]
    refine ifP_f (by omega) ?_
    rcases hexV_cases b with ⟨q1, q2, _⟩ | ⟨y, q1, q2, _, q3⟩
    · rw [hexB_fail (.inr q1)] at h4
      rw [q2]; exact ifP_t (by omega) ⟨no (by rw [← h4]; rfl), rfl⟩
    rw [q2]
    refine ifP_f (by omega) ?_
    rw [hexB_go k1 q1, Option.map_map] at h4
    rw [w64 (x := 16 * x) (by omega), w64 (x := 16 * x + y) (by omega), u8_id (x := 16 * x + y) (by omega)]
    refine ⟨by simp; omega, _, by omega, rfl, by omega, by omega, by omega, rfl, by simp; omega, ?_⟩
    rw [← h4]; congr 1; funext z; simp
  · rw [List.drop_eq_nil_of_le (by omega)] at h4
    have h5 : hexB (bytesL s) = some r := by rw [← h4]; simp [hexB]
    unfold hexR
    rw [h5]; exact ⟨rfl, rfl⟩
theorem c_impl_firstI (l : List Int) (hl : l.length ≤ 1048576) : TT n_impl_first [.one (.sl (.int .i64) l)] [] (eI ((l.find? (· != 0)).getD 0)) [] := by
  refine r_impl_first l ⟨fun m i => 0 ≤ i ∧ i ≤ l.length ∧ m = (l.length - i).toNat ∧ ((l.drop i.toNat).find? (· != 0)).getD 0 = (l.find? (· != 0)).getD 0, ⟨_, rfl, by omega, by omega, rfl, rfl⟩, ?_⟩
  rintro m i ⟨h0, h1, rfl, h2⟩
  refine ifP (fun hlt => ⟨⟨h0, hlt⟩, ?_⟩) (fun hge => ?_)
  · rw [drop_getD (by omega) 0] at h2
    refine ifN (fun e => ?_) (fun e => ?_)
    · rw [List.find?_cons_of_pos (by simpa using e)] at h2
      rw [← h2]; exact ⟨rfl, rfl⟩
    · rw [List.find?_cons_of_neg (by simpa using e)] at h2
      rw [w64 (x := i + 1) (by omega)]
      exact ⟨_, by omega, rfl, by omega, by omega, rfl, by rw [toNat_succ h0]; exact h2⟩
  · rw [List.drop_eq_nil_of_le (by omega)] at h2
    rw [← h2]; exact ⟨rfl, rfl⟩
theorem first2 (a b : Int) : (([a, b] : List Int).find? (· != 0)).getD 0 = if a ≠ 0 then a else b := by
  by_cases h : a = 0
  · by_cases h2 : b = 0 <;> simp [h, h2]
  · simp [h]
theorem c_first2 (a b : Int) : TT n_impl_first [.one (.sl (.int .i64) [a, b])] [] (eI (if a ≠ 0 then a else b)) [] := by
  have := c_impl_firstI [a, b] (by simp)
  rw [first2] at this; exact this
theorem c_impl_BytesOf (s : ByteArray) (h : s.size = 2) : TT n_impl_BytesOf [eS s] [] (.tup [(false, [.str (hexR s)]), (false, [cI (if (hexB (bytesL s)).isSome = true then 0 else 3)])]) [] := by
  have hsz := bytesL_size s
  have no : hexB (bytesL s) = none → Ent.tup [(false, [.str (⟨#[]⟩ : ByteArray)]), (false, [cI 3])] = .tup [(false, [.str (hexR s)]), (false, [cI (if (hexB (bytesL s)).isSome = true then 0 else 3)])] := fun e => by unfold hexR; rw [e]; rfl
  have hl := c_impl_long s
  rw [if_neg (by omega)] at hl
  refine r_impl_BytesOf s ⟨_, hl, by decide, _, c_impl_when _ _, _, c_first2 _ _, ?_⟩
  rw [h]
  refine ifN_f (by decide) ?_
  refine ⟨fun m i r => (m = 1 ∧ i = 0 ∧ r = []) ∨ (m = 0 ∧ i = 2 ∧ hexB (bytesL s) = some r), ⟨1, rfl, .inl ⟨rfl, rfl, rfl⟩⟩, ?_⟩
  rintro m i r (⟨rfl, rfl, rfl⟩ | ⟨rfl, rfl, h5⟩)
  · refine ifP_t (by omega) ?_
    rw [show wI (0 + 1) = 1 from rfl, show wI (0 + 2) = 2 from rfl]
    have h4 : hexB (bytesL s) = hexB ((bytesL s).getD 0 0 :: (bytesL s).getD 1 0 :: []) := by
      have := drop_two (l := bytesL s) (i := 0) (by omega)
      rw [List.drop_zero, List.drop_eq_nil_of_le (by omega)] at this
      rw [this]; simp
    have ra := byte_rng s 0
    have rb := byte_rng s 1
    have ca := c_impl_hexDigit _ ra
    have cb := c_impl_hexDigit _ rb
    have g0 : (bytesL s).getD (Int.toNat 0) 0 = (bytesL s).getD 0 0 := rfl
    have g1 : (bytesL s).getD (Int.toNat 1) 0 = (bytesL s).getD 1 0 := rfl
    rw [g0, g1]
    revert h4 ca cb
    generalize (bytesL s).getD 0 0 = a
    generalize (bytesL s).getD 1 0 = b
    intro h4 ca cb
    refine ⟨⟨by omega, by omega⟩, ⟨by omega, by omega⟩, _, ca, _, cb, ?_⟩
    rcases hexV_cases a with ⟨k1, _, k2⟩ | ⟨x, k1, _, k2, k3⟩
    · rw [k2]; exact ifE_t rfl ⟨no (by rw [h4, hexB_fail (.inl k1)]), rfl⟩
    rw [k2]
    refine ifE_f (by omega) ?_
    rcases hexV_cases b with ⟨q1, _, q2⟩ | ⟨y, q1, _, q2, q3⟩
    · rw [q2]; exact ifE_t rfl ⟨no (by rw [h4, hexB_fail (.inr q1)]), rfl⟩
    rw [q2]
    refine ifE_f (by omega) ⟨by omega, by simp, 0, by omega, rfl, .inr ⟨rfl, rfl, ?_⟩⟩
    rw [h4, hexB_go k1 q1, hex_or' k3 q3]; rfl
  · refine ifP_f (by omega) ?_
    unfold hexR
    rw [h5]; exact ⟨rfl, rfl⟩

/-! ### pins -/
theorem pin_i : ∀ (b : Fin 256) (i : Fin 8), (bits .and .u8 (Int.fdiv (b : Int) (2 ^ min (i : Nat) (IntKind.bits .u8))) 1 == 1) = pinAt (b : Int) i := by decide +kernel
theorem pin_s : ∀ (b : Fin 256) (i : Fin 8), (bits .and .i64 (b : Int) (wI (1 * 2 ^ min (i : Nat) (IntKind.bits .i64))) != 0) = pinAt (b : Int) i := by decide +kernel
theorem c_spec_l12Pins (b : Int) (h : 0 ≤ b ∧ b ≤ 255) : TT n_spec_l12Pins [eI b] [] (.one (.row 0)) [.row t_bool .bool (pinsL b 8)] := by
  refine r_spec_l12Pins b ⟨fun m i r => 0 ≤ i ∧ i ≤ 8 ∧ m = (8 - i).toNat ∧ r = pinsL b i.toNat, ⟨_, rfl, by omega, by omega, rfl, rfl⟩, ?_⟩
  rintro m i r ⟨h0, h1, rfl, rfl⟩
  refine ifP (fun hlt => ?_) (fun hge => ?_)
  · have e : IntKind.wrap .u64 i = i := by simp [IntKind.wrap, IntKind.signed, IntKind.bits]; omega
    have hp := pin_s ⟨b.toNat, by omega⟩ ⟨i.toNat, by omega⟩
    simp only [Int.toNat_of_nonneg h.1] at hp
    rw [e, hp, w64 (x := i + 1) (by omega)]
    exact ⟨h0, by rw [pinsL_len]; simp; omega, _, by omega, rfl, by omega, by omega, rfl, by rw [toNat_succ h0, pinsL_succ]⟩
  · rw [show i.toNat = 8 by omega]; exact ⟨rfl, rfl⟩

/-! ### an item -/
theorem itemM_cut {w : ByteArray} : itemM w = match numOf (cutC w.data.toList).1, hexB ((cutC w.data.toList).2.1.map fun b => (b.toNat : Int)) with
    | some n, some [b] => if 1 ≤ n then some (n, b) else none
    | _, _ => none := rfl
theorem strL_size' (l : List Int) : (strL l).size = l.length := by simp [strL, ByteArray.size]
/-- What the reference says of a word. -/
theorem c_spec_l12Item (w : ByteArray) (h : w.size ≤ 1048576) : ∃ (n : Int) (s : ByteArray) (ok : Bool), TT n_spec_l12Item [eS w] [] (.tup [(false, [cI n]), (false, [.str s]), (false, [.bool ok])]) [] ∧
    ((ok = false ∧ itemM w = none) ∨ (ok = true ∧ ∃ b, itemM w = some (n, b) ∧ s = strL [b] ∧ (0 ≤ b ∧ b ≤ 255) ∧ (1 ≤ n ∧ n ≤ 999999999999999999))) := by
  have hsz := size_data w
  by_cases hc : ∃ i, i < w.data.toList.length ∧ w.data.toList.getD i 0 = 58
  · -- the first colon
    obtain ⟨i, hi, hat, hbef⟩ : ∃ i, i < w.data.toList.length ∧ w.data.toList.getD i 0 = 58 ∧ ∀ j, j < i → w.data.toList.getD j 0 ≠ 58 := by
      obtain ⟨i, h1, h2⟩ := hc
      induction i using Nat.strongRecOn with
      | _ i ih =>
        by_cases k : ∃ j, j < i ∧ w.data.toList.getD j 0 = 58
        · obtain ⟨j, k1, k2⟩ := k
          exact ih j k1 (by omega) k2
        · exact ⟨i, h1, h2, fun j hj e => k ⟨j, hj, e⟩⟩
    have hcut := cutC_at hi hbef hat
    have d1 : (w.extract (Int.toNat 0) i).data.toList = w.data.toList.take i := by rw [ext_data]; simp
    have d2 : (w.extract (i + 1) w.size).data.toList = w.data.toList.drop (i + 1) := by rw [ext_data, List.take_of_length_le (by omega)]
    have b2 : bytesL (w.extract (i + 1) w.size) = (w.data.toList.drop (i + 1)).map fun b => (b.toNat : Int) := by rw [← d2]; rfl
    have z1 : (w.extract (Int.toNat 0) i).size ≤ 1048576 := by rw [size_data, d1]; simp; omega
    have z2 : (w.extract (i + 1) w.size).size ≤ 1048576 := by rw [size_data, d2]; simp; omega
    have c1 := c_spec_l00Number _ z1
    have c2 := c_spec_l01Bytes _ z2
    rw [d1] at c1
    unfold hexR at c2
    rw [b2] at c2
    have hI : itemM w = match numOf (w.data.toList.take i), hexB ((w.data.toList.drop (i + 1)).map fun b => (b.toNat : Int)) with
        | some n, some [b] => if 1 ≤ n then some (n, b) else none
        | _, _ => none := by rw [itemM_cut, hcut]
    revert c1 c2 hI
    generalize w.data.toList.take i = L1
    generalize (w.data.toList.drop (i + 1)).map (fun b => (b.toNat : Int)) = L2
    intro c1 c2 hI
    -- whatever it hands back at the colon
    have run : ∀ {n : Int} {s : ByteArray} {ok : Bool}, (ok = ((numR L1).2 && ((hexB L2).isSome && (decide (((hexB L2).getD []).length = 1) && decide ((numR L1).1 > 0))))) → n = (numR L1).1 → s = strL ((hexB L2).getD []) → TT n_spec_l12Item [eS w] [] (.tup [(false, [cI n]), (false, [.str s]), (false, [.bool ok])]) [] := by
      rintro n s ok rfl rfl rfl
      refine r_spec_l12Item w ⟨fun m k => 0 ≤ k ∧ k ≤ i ∧ m = (i + 1 - k).toNat, ⟨_, rfl, by omega, by omega, rfl⟩, ?_⟩
      rintro m k ⟨k0, k1, rfl⟩
      refine ifP (fun hlt => ⟨⟨k0, hlt⟩, ?_⟩) (fun hge => by omega)
      have e58 : ((bytesL w).getD k.toNat 0 == 58) = (w.data.toList.getD k.toNat 0 == 58) := byte_is 58
      rw [e58]
      refine ifB_cases (fun hb => ?_) (fun hb => ?_)
      · rw [beq_iff_eq] at hb
        have ek : k.toNat = i := by
          rcases Nat.lt_or_ge k.toNat i with q | q
          · exact absurd hb (hbef _ q)
          · omega
        rw [w64 (x := k + 1) (by omega), show (k + 1).toNat = i + 1 by omega, ek, Int.toNat_natCast]
        refine ⟨by omega, _, _, c1, by omega, _, _, c2, ?_⟩
        rw [size_strL]
        refine ifB_cases (fun q1 => ifB_cases (fun q2 => ifE (fun q3 => ⟨?_, rfl⟩) (fun q3 => ⟨?_, rfl⟩)) (fun q2 => ⟨?_, rfl⟩)) (fun q1 => ⟨?_, rfl⟩)
        · rw [q1, q2, decide_eq_true (show ((hexB L2).getD []).length = 1 by omega)]; rfl
        · rw [q1, q2, decide_eq_false (show ¬ ((hexB L2).getD []).length = 1 by omega)]; rfl
        · rw [q1, q2]; rfl
        · rw [q1]; rfl
      · rw [beq_eq_false_iff_ne] at hb
        rw [w64 (x := k + 1) (by omega)]
        have : k.toNat ≠ i := fun e => hb (by rw [e]; exact hat)
        exact ⟨_, by omega, rfl, by omega, by omega, rfl⟩
    rcases rd_eq L1 with ⟨_, k1, k2⟩ | ⟨_, k1, k2⟩
    · cases hh : hexB L2 with
      | none =>
        rw [k2, hh] at hI
        exact ⟨_, _, _, run rfl rfl rfl, .inl ⟨by rw [k1, hh]; rfl, hI⟩⟩
      | some m =>
        rw [k2, hh] at hI
        obtain ⟨_, hb⟩ := hexB_len hh
        by_cases hm : ∃ b, m = [b]
        · obtain ⟨b, rfl⟩ := hm
          simp only at hI
          by_cases hn : 1 ≤ atoiN L1
          · rw [if_pos hn] at hI
            have := readN_some k2
            refine ⟨_, _, _, run rfl rfl rfl, .inr ⟨by rw [k1, hh]; simp; omega, b, ?_, by rw [hh]; rfl, hb b (by simp), ?_⟩⟩
            · rw [hI, k1]
            · rw [k1]; exact ⟨hn, this.2.2.2.2⟩
          · rw [if_neg hn] at hI
            exact ⟨_, _, _, run rfl rfl rfl, .inl ⟨by rw [k1, hh]; simp; omega, hI⟩⟩
        · have h1 : itemM w = none := by
            rw [hI]
            match m, hm with
            | [], _ => rfl
            | [b], hm => exact absurd ⟨b, rfl⟩ hm
            | _ :: _ :: _, _ => rfl
          have h2 : ¬ m.length = 1 := fun e => hm (by
            match m, e with
            | [b], _ => exact ⟨b, rfl⟩)
          exact ⟨_, _, _, run rfl rfl rfl, .inl ⟨by rw [k1, hh]; simp [h2], h1⟩⟩
    · rw [k2] at hI
      exact ⟨_, _, _, run rfl rfl rfl, .inl ⟨by rw [k1]; rfl, hI⟩⟩
  · -- no colon
    have hno : ∀ j, j < w.data.toList.length → w.data.toList.getD j 0 ≠ 58 := fun j hj e => hc ⟨j, hj, e⟩
    have hI : itemM w = none := by
      rw [itemM_cut, cutC_none hno]
      simp only [List.map_nil, hexB]
      cases numOf w.data.toList <;> rfl
    refine ⟨0, (⟨#[]⟩ : ByteArray), false, r_spec_l12Item w ⟨fun m k => 0 ≤ k ∧ k ≤ w.size ∧ m = (w.size - k).toNat, ⟨_, rfl, by omega, by omega, rfl⟩, ?_⟩, .inl ⟨rfl, hI⟩⟩
    rintro m k ⟨k0, k1, rfl⟩
    refine ifP (fun hlt => ⟨⟨k0, hlt⟩, ?_⟩) (fun hge => ⟨rfl, rfl⟩)
    have e58 : ((bytesL w).getD k.toNat 0 == 58) = (w.data.toList.getD k.toNat 0 == 58) := byte_is 58
    rw [e58]
    refine ifB_f (beq_eq_false_iff_ne.2 (hno _ (by omega))) ?_
    rw [w64 (x := k + 1) (by omega)]
    exact ⟨_, by omega, rfl, by omega, by omega, rfl⟩
end Go.Ry
