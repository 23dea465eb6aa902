/- The law of frames. No condition. -/
import Derived.Test.YtlphiljackccnaaPFr
set_option linter.unusedVariables false
set_option linter.unusedSimpArgs false
namespace Go.Ry
variable {C : Calls_}

/-! ### what is right of a frame -/
structure Good (l : List Int) (N : Nat) : Prop where
  len : l.length = N + 10
  top : N ≤ 65526
  mag : l.take 4 = [80, 76, 67, 49]
  num : (l.drop 4).take 4 = leB N 4
  sum : sgn 2 (leN (l.drop (N + 8))) = sumL 1 (l.take (N + 8))
  byt : isB l
theorem leN_inj : ∀ {a b : List Int}, isB a → isB b → a.length = b.length → leN a = leN b → a = b
  | [], [], _, _, _, _ => rfl
  | [], _ :: _, _, _, h, _ => by simp at h
  | _ :: _, [], _, _, h, _ => by simp at h
  | x :: a, y :: b, ha, hb, h, e => by
    have h1 := ha x (by simp); have h2 := hb y (by simp)
    simp only [leN] at e
    have : x = y := by omega
    subst this
    have e2 : a = b := leN_inj (fun z hz => ha z (by simp [hz])) (fun z hz => hb z (by simp [hz])) (by simpa using h) (by omega)
    rw [e2]
theorem sgn4_leB {N : Nat} (h : N ≤ 65526) : sgn 4 (leN (leB N 4)) = N := by
  have := sgn_leB (z := 4) (n := (N : Int)) (by simp [isZ]) (by simp [inR, half]; omega)
  simpa using this
theorem Good.zero {l : List Int} {N : Nat} (g : Good l N) : frameE l = 0 := by
  unfold frameE
  have := g.len
  rw [if_neg (by omega), if_neg (not_not_intro g.mag), g.num, sgn4_leB g.top, if_neg (not_not_intro (by omega)), show l.length - 2 = N + 8 by omega, if_neg (not_not_intro g.sum)]
theorem Good.short {l : List Int} {N j : Nat} (g : Good l N) (h : j < l.length) : frameE (l.take j) = 16 ∨ frameE (l.take j) = 8 := by
  unfold frameE
  have hl := g.len
  have hj : (l.take j).length = j := by simp; omega
  rw [hj]
  by_cases h10 : j < 10
  · rw [if_pos h10]; exact .inl rfl
  · right
    have e1 : (l.take j).take 4 = l.take 4 := by rw [List.take_take]; congr 1; omega
    have e2 : ((l.take j).drop 4).take 4 = (l.drop 4).take 4 := by rw [List.drop_take, List.take_take]; congr 1; omega
    rw [if_neg h10, e1, if_neg (not_not_intro g.mag), e2, g.num, sgn4_leB g.top, if_pos (by omega)]
theorem Good.long {l : List Int} {N : Nat} (g : Good l N) : frameE (l ++ [120]) = 8 := by
  unfold frameE
  have hl := g.len
  have e1 : (l ++ [120]).take 4 = l.take 4 := List.take_append_of_le_length (by omega)
  have e2 : ((l ++ [120]).drop 4).take 4 = (l.drop 4).take 4 := by
    rw [List.drop_append_of_le_length (by omega), List.take_append_of_le_length (by simp; omega)]
  rw [if_neg (by simp; omega), e1, if_neg (not_not_intro g.mag), e2, g.num, sgn4_leB g.top, if_pos (by simp; omega)]
theorem set_get {l : List Int} {i : Nat} {x : Int} (h : i < l.length) : (l.set i x)[i]? = some x := by simp [h]
theorem isB_set {l : List Int} {i : Nat} {x : Int} (h : isB l) (hx : 0 ≤ x ∧ x ≤ 255) : isB (l.set i x) := fun y hy => by
  rcases List.mem_or_eq_of_mem_set hy with h1 | h1
  · exact h y h1
  · rw [h1]; exact hx
theorem Good.bent {l : List Int} {N i : Nat} {x : Int} (g : Good l N) (hi : i < l.length) (hx : 0 ≤ x ∧ x ≤ 255) (hne : x ≠ l.getD i 0) : frameE (l.set i x) ≠ 0 := by
  have hl := g.len
  have hget : l[i]? = some (l.getD i 0) := by rw [List.getD_eq_getElem?_getD, List.getElem?_eq_getElem hi]; rfl
  have hb := isB_set (i := i) g.byt hx
  have key : l.set i x ≠ l := fun e => by
    have := set_get (x := x) hi
    rw [e, hget] at this
    exact hne (Option.some.inj this).symm
  intro h0
  unfold frameE at h0
  rw [List.length_set, if_neg (by omega)] at h0
  split at h0
  · simp at h0
  · rename_i c1
    have c1 := Classical.not_not.1 c1
    split at h0
    · simp at h0
    · rename_i c2
      have c2 := Classical.not_not.1 c2
      split at h0
      · simp at h0
      · rename_i c3
        have c3 := Classical.not_not.1 c3
        rw [show l.length - 2 = N + 8 by omega] at c3
        rcases Nat.lt_or_ge i 4 with h1 | h1
        · have := set_get (x := x) hi
          rw [← List.getElem?_take_of_lt h1, c1, ← g.mag, List.getElem?_take_of_lt h1, hget] at this
          exact hne (Option.some.inj this).symm
        rcases Nat.lt_or_ge i 8 with h2 | h2
        · have e : ((l.set i x).drop 4).take 4 = leB N 4 := by
            refine leN_inj (fun y hy => hb y (List.mem_of_mem_drop (List.mem_of_mem_take hy))) (leB_isB _ _) (by simp [leB_length]; omega) ?_
            have e1 := sgn4_leB g.top
            have r1 := leN_range (l := ((l.set i x).drop 4).take 4) (fun y hy => hb y (List.mem_of_mem_drop (List.mem_of_mem_take hy)))
            have r2 := leN_range (leB_isB (N : Int) 4)
            rw [show (((l.set i x).drop 4).take 4).length = 4 by simp; omega] at r1
            rw [leB_length] at r2
            simp only [Int.reducePow] at r1 r2
            have c2' : sgn 4 (leN (((l.set i x).drop 4).take 4)) = sgn 4 (leN (leB N 4)) := by rw [c2, e1]; omega
            simp only [sgn, half, show (4 : Int) ≠ 1 by decide, show (4 : Int) ≠ 2 by decide, if_false] at c2'
            split at c2' <;> split at c2' <;> omega
          have := set_get (x := x) hi
          have q : ∀ m : List Int, m[i]? = ((m.drop 4).take 4)[i - 4]? := fun m => by
            rw [List.getElem?_take_of_lt (by omega), List.getElem?_drop, show 4 + (i - 4) = i by omega]
          rw [q, e, ← g.num, ← q, hget] at this
          exact hne (Option.some.inj this).symm
        rcases Nat.lt_or_ge i (N + 8) with h3 | h3
        · have e1 : (l.set i x).drop (N + 8) = l.drop (N + 8) := List.drop_set_of_lt h3
          rw [e1, List.take_set, g.sum] at c3
          have := sumL_set (l.take (N + 8)) i x 1 (fun y hy => g.byt y (List.mem_of_mem_take hy)) hx (by omega) (by simp; omega) c3.symm
          rw [List.getD_eq_getElem?_getD, List.getElem?_take_of_lt h3, ← List.getD_eq_getElem?_getD] at this
          exact hne this.symm
        · have e1 : (l.set i x).take (N + 8) = l.take (N + 8) := by
            rw [List.take_set, List.set_eq_of_length_le (by simp; omega)]
          rw [e1, ← g.sum] at c3
          have bd : isB (l.drop (N + 8)) := fun y hy => g.byt y (List.mem_of_mem_drop hy)
          have bd' : isB ((l.set i x).drop (N + 8)) := fun y hy => hb y (List.mem_of_mem_drop hy)
          have e : (l.set i x).drop (N + 8) = l.drop (N + 8) := by
            refine leN_inj bd' bd (by simp) ?_
            have r1 := leN_range bd'
            have r2 := leN_range bd
            rw [show ((l.set i x).drop (N + 8)).length = 2 by simp; omega] at r1
            rw [show (l.drop (N + 8)).length = 2 by simp; omega] at r2
            simp only [Int.reducePow] at r1 r2
            simp only [sgn, half, show (2 : Int) ≠ 1 by decide, if_false, if_true] at c3
            split at c3 <;> split at c3 <;> omega
          have := set_get (x := x) hi
          have q : ∀ m : List Int, m[i]? = (m.drop (N + 8))[i - (N + 8)]? := fun m => by
            rw [List.getElem?_drop, show N + 8 + (i - (N + 8)) = i by omega]
          rw [q, e, ← q, hget] at this
          exact hne (Option.some.inj this).symm
theorem good_frame (s : ByteArray) (h : s.size ≤ 65526) : Good (bytesL (frameA s)) s.size := by
  have hh : bytesL (headA s) = [80, 76, 67, 49] ++ leB s.size 4 ++ bytesL s := by
    rw [headA, bytesL_append, bytesL_append, magicA_bytes, toBytes (leB_isB _ _)]
  have hf : bytesL (frameA s) = bytesL (headA s) ++ leB (sumL 1 (bytesL (headA s))) 2 := by rw [frameA, bytesL_append, toBytes (leB_isB _ _)]
  have hhl : (bytesL (headA s)).length = s.size + 8 := by rw [bytesL_size, headA_size]; omega
  have l4 := leB_length (s.size : Int) 4
  refine ⟨by rw [bytesL_size, frameA_size]; omega, h, ?_, ?_, ?_, bytesL_isB _⟩
  · rw [hf, List.take_append_of_le_length (by omega), hh, List.append_assoc]; rfl
  · rw [hf, hh, List.append_assoc, List.append_assoc, show ([80, 76, 67, 49] : List Int) ++ _ = _ from rfl, List.drop_left' (by rfl), List.take_left' l4]
  · rw [hf, List.drop_left' hhl, List.take_left' hhl]
    have r := sumL_range (bytesL (headA s)) 1 (by omega)
    have := sgn_leB (z := 2) (n := sumL 1 (bytesL (headA s))) (by simp [isZ]) (by simp [inR, half]; omega)
    simpa using this
theorem frameS_frame (s : ByteArray) (h : s.size ≤ 65526) : frameS (frameA s) = s := by
  have g := good_frame s h
  unfold frameS
  rw [if_pos g.zero]
  apply bytesL_inj
  have hs := frameA_size s
  rw [bytes_extract _ (by omega)]
  have hh : bytesL (headA s) = [80, 76, 67, 49] ++ leB s.size 4 ++ bytesL s := by
    rw [headA, bytesL_append, bytesL_append, magicA_bytes, toBytes (leB_isB _ _)]
  have hf : bytesL (frameA s) = bytesL (headA s) ++ leB (sumL 1 (bytesL (headA s))) 2 := by rw [frameA, bytesL_append, toBytes (leB_isB _ _)]
  have hhl : (bytesL (headA s)).length = s.size + 8 := by rw [bytesL_size, headA_size]; omega
  have l4 := leB_length (s.size : Int) 4
  rw [hs, hf, List.take_left' (by omega), hh, List.drop_left' (by simp; omega)]

/-! ### hex digits -/
def digA : ByteArray := ⟨#[48, 49, 50, 51, 52, 53, 54, 55, 56, 57, 97, 98, 99, 100, 101, 102]⟩
def dig (n : Nat) : Int := (bytesL digA).getD n 0
theorem dig_eq : ∀ n : Fin 16, dig n.val = if n.val < 10 then 48 + (n.val : Int) else 87 + (n.val : Int) := by decide
theorem dig_range (n : Nat) : 0 ≤ dig n ∧ dig n ≤ 255 := by have := bytes_at (s := digA) (i := n); unfold dig; omega
def hexL : List Int → List Int
  | [] => []
  | b :: l => dig (b / 16).toNat :: dig (b % 16).toNat :: hexL l
theorem hexL_length : ∀ l : List Int, (hexL l).length = 2 * l.length
  | [] => rfl
  | b :: l => by simp [hexL, hexL_length l]; omega
theorem hexL_isB : ∀ l : List Int, isB (hexL l)
  | [] => fun x hx => by simp [hexL] at hx
  | b :: l => fun x hx => by
    simp only [hexL, List.mem_cons] at hx
    rcases hx with rfl | rfl | hx
    · exact dig_range _
    · exact dig_range _
    · exact hexL_isB l x hx
theorem hexL_get : ∀ (l : List Int) (j : Nat), j < l.length → (hexL l).getD (2 * j) 0 = dig (l.getD j 0 / 16).toNat ∧ (hexL l).getD (2 * j + 1) 0 = dig (l.getD j 0 % 16).toNat
  | [], _, h => by simp at h
  | b :: l, 0, _ => by simp [hexL]
  | b :: l, j + 1, h => by
    have := hexL_get l j (by simpa using h)
    rw [show 2 * (j + 1) = 2 * j + 1 + 1 by omega, show 2 * j + 1 + 1 + 1 = 2 * j + 1 + 1 + 1 from rfl]
    simpa [hexL] using this
def hexA (s : ByteArray) : ByteArray := strL (hexL (bytesL s))
def K_Hex (n : Nat) (C : Calls_) : Prop := ∀ s : ByteArray, s.size ≤ 32768 → C n [.one (.str s)] [] (.one (.str (hexA s))) []
theorem p_spec_l01Hex (s : ByteArray) (hs : s.size ≤ 32768) : v_spec_l01Hex C (fun r os => r = .one (.str (hexA s)) ∧ os = []) s := by
  refine ⟨fun m t i r => s = t ∧ 0 ≤ i ∧ i ≤ s.size ∧ m = (s.size - i).toNat ∧ r.length = 2 * i.toNat ∧ r ++ hexL ((bytesL s).drop i.toNat) = hexL (bytesL s), ⟨_, rfl, by omega, by omega, rfl, rfl, rfl⟩, ?_⟩
  rintro m _ i r ⟨rfl, h0, h1, rfl, h2, h3⟩
  refine ifP (fun hlt => ?_) (fun hge => ?_)
  · have hb := bytes_at (s := s) (i := i.toNat)
    rw [drop_at s (by omega)] at h3
    simp only [hexL] at h3
    have a1 : IntKind.wrap .u8 (Int.tdiv ((bytesL s).getD i.toNat 0) 16) = (bytesL s).getD i.toNat 0 / 16 := by rw [td (by omega), wu8]; omega
    have a2 : Int.tmod ((bytesL s).getD i.toNat 0) 16 = (bytesL s).getD i.toNat 0 % 16 := tm (by omega)
    rw [a1, a2, w64 (x := i + 1) (by omega)]
    refine ⟨⟨h0, by omega⟩, by omega, ⟨by omega, ?_⟩, ⟨h0, by omega⟩, by omega, ⟨by omega, ?_⟩, ?_, _, ?_, rfl, by omega, by omega, rfl, ?_, ?_⟩
    · show _ < ((16 : Nat) : Int); omega
    · show _ < ((16 : Nat) : Int); omega
    · simp only [List.length_cons, List.length_nil]; omega
    · omega
    · simp only [List.length_append, List.length_cons, List.length_nil]; omega
    · rw [toNat_succ h0, List.append_assoc]; exact h3
  · rw [List.drop_eq_nil_of_le (by rw [bytesL_size]; omega)] at h3
    simp only [hexL, List.append_nil] at h3
    rw [h3]; exact ⟨rfl, rfl⟩
theorem p_spec_HexOf (h : K_Hex n_spec_l01Hex C) (s : ByteArray) (hs : s.size ≤ 32768) : v_spec_HexOf C (fun r os => r = .one (.str (hexA s)) ∧ os = []) s := ifP_f (by omega) ⟨_, h s hs, rfl, rfl, rfl⟩
theorem p_impl_HexOf (s : ByteArray) (hs : s.size ≤ 32768) : v_impl_HexOf C (fun r os => r = .one (.str (hexA s)) ∧ os = []) s := by
  refine ifP_f (by omega) ⟨fun m t n i r => s = t ∧ n = s.size ∧ 0 ≤ i ∧ i ≤ s.size ∧ m = (s.size - i).toNat ∧ r.length = 2 * i.toNat ∧ r ++ hexL ((bytesL s).drop i.toNat) = hexL (bytesL s), ⟨_, rfl, rfl, by omega, by omega, rfl, rfl, rfl⟩, ?_⟩
  rintro m _ _ i r ⟨rfl, rfl, h0, h1, rfl, h2, h3⟩
  refine ifP (fun hlt => ?_) (fun hge => ?_)
  · have hb := bytes_at (s := s) (i := i.toNat)
    rw [drop_at s (by omega)] at h3
    simp only [hexL] at h3
    have a1 : Int.fdiv ((bytesL s).getD i.toNat 0) (2 ^ min (Int.toNat (4 : Int)) (IntKind.bits .u8)) = (bytesL s).getD i.toNat 0 / 16 := by
      rw [show (2 : Int) ^ min (Int.toNat (4 : Int)) (IntKind.bits .u8) = 16 by decide, Int.fdiv_eq_ediv_of_nonneg _ (by decide)]
    have a2 : bits .and .u8 ((bytesL s).getD i.toNat 0) 15 = (bytesL s).getD i.toNat 0 % 16 := u8_and15 _ hb.1 hb.2
    rw [a1, a2, w64 (x := i + 1) (by omega)]
    refine ⟨⟨h0, by omega⟩, by omega, ⟨by omega, ?_⟩, ⟨h0, by omega⟩, ⟨by omega, ?_⟩, ?_, _, ?_, rfl, rfl, by omega, by omega, rfl, ?_, ?_⟩
    · show _ < ((16 : Nat) : Int); omega
    · show _ < ((16 : Nat) : Int); omega
    · simp only [List.length_cons, List.length_nil]; omega
    · omega
    · simp only [List.length_append, List.length_cons, List.length_nil]; omega
    · rw [toNat_succ h0, List.append_assoc]; exact h3
  · rw [List.drop_eq_nil_of_le (by rw [bytesL_size]; omega)] at h3
    simp only [hexL, List.append_nil] at h3
    rw [h3]; exact ⟨rfl, rfl⟩
def K_hexDigit (C : Calls_) : Prop := ∀ n : Int, 0 ≤ n ∧ n < 16 → C n_impl_hexDigit [.one (.int .u8 (dig n.toNat))] [] (.one (.int .u8 n)) []
theorem p_impl_hexDigit (n : Int) (hn : 0 ≤ n ∧ n < 16) : v_impl_hexDigit C (fun r os => r = .one (.int .u8 n) ∧ os = []) (dig n.toNat) := by
  have hd := dig_eq ⟨n.toNat, by omega⟩
  simp only at hd
  rw [hd]
  by_cases h : n.toNat < 10
  · rw [if_pos h]
    refine ⟨fun c b => c = 48 + (n.toNat : Int) ∧ b = true, ifP_t (by omega) ⟨rfl, decide_eq_true (by omega)⟩, ?_⟩
    rintro c b ⟨rfl, rfl⟩
    refine ifB_t rfl ⟨?_, rfl⟩
    rw [wu8, show (48 + (n.toNat : Int) - 48) % 256 = n by omega]
  · rw [if_neg h]
    refine ⟨fun c b => c = 87 + (n.toNat : Int) ∧ b = false, ifP_t (by omega) ⟨rfl, decide_eq_false (by omega)⟩, ?_⟩
    rintro c b ⟨rfl, rfl⟩
    refine ifB_f rfl (ifP_t (by omega) (ifP_t (by omega) ⟨?_, rfl⟩))
    rw [wu8, wu8, show ((87 + (n.toNat : Int) - 97) % 256 + 10) % 256 = n by omega]
theorem or16 {x y : Int} (hx : 0 ≤ x ∧ x < 16) (hy : 0 ≤ y ∧ y < 16) : bits .or .u8 (IntKind.wrap .u8 (x * 2 ^ min (Int.toNat (4 : Int)) (IntKind.bits .u8))) y = x * 16 + y := by
  rw [show (2 : Int) ^ min (Int.toNat (4 : Int)) (IntKind.bits .u8) = 16 by decide, wu8, show x * 16 % 256 = x * 16 by omega]
  exact bits_join .u8 8 (by decide) wraps_u8 4 (x * 16) y (by omega) (by omega) (show x * 16 < 256 by omega) hy.1 (show y < 16 by omega) (show y < 256 by omega)
def K_BytesOf (C : Calls_) : Prop := ∀ s : ByteArray, s.size ≤ 32768 → C n_impl_BytesOf [.one (.str (hexA s))] [] (strI s 0) []
theorem p_impl_BytesOf (hl : K_long C) (hw : K_when C) (hf : K_first C) (hd : K_hexDigit C) (s : ByteArray) (hs : s.size ≤ 32768) : v_impl_BytesOf C (fun r os => r = strI s 0 ∧ os = []) (hexA s) := by
  have hz : (hexA s).size = 2 * s.size := by rw [hexA, strL_size, hexL_length, bytesL_size]
  have hb : bytesL (hexA s) = hexL (bytesL s) := toBytes (hexL_isB _)
  have k0 := hl (hexA s)
  rw [if_neg (by omega)] at k0
  have k1 := hw (Int.tmod ((hexA s).size : Int) 2 == 1) 3
  rw [if_neg (by rw [tm (by omega), beq_iff_eq]; omega)] at k1
  refine ⟨_, k0, rfl, by omega, _, k1, rfl, _, hf _ (by simp), rfl, ifN_f rfl ⟨fun m t i r => hexA s = t ∧ 0 ≤ i ∧ i ≤ s.size * 2 ∧ i % 2 = 0 ∧ m = (s.size * 2 - i).toNat ∧ r = (bytesL s).take (i.toNat / 2), ⟨_, rfl, by omega, by omega, by omega, rfl, by simp⟩, ?_⟩⟩
  rintro m _ i r ⟨rfl, h0, h1, h2, rfl, rfl⟩
  refine ifP (fun hlt => ?_) (fun hge => ?_)
  · obtain ⟨j, rfl⟩ : ∃ j : Nat, i = 2 * (j : Int) := ⟨(i / 2).toNat, by omega⟩
    have hj : j < s.size := by omega
    obtain ⟨g1, g2⟩ := hexL_get (bytesL s) j (by rw [bytesL_size]; exact hj)
    have hbj := bytes_at (s := s) (i := j)
    rw [w64 (x := 2 * (j : Int) + 1) (by omega), w64 (x := 2 * (j : Int) + 2) (by omega), hb, show (2 * (j : Int)).toNat = 2 * j by omega, show (2 * (j : Int) + 1).toNat = 2 * j + 1 by omega, g1, g2]
    have d1 := hd ((bytesL s).getD j 0 / 16) (by omega)
    have d2 := hd ((bytesL s).getD j 0 % 16) (by omega)
    refine ⟨⟨by omega, by omega⟩, ⟨by omega, by omega⟩, _, d1, rfl, _, d2, rfl, ifB_f (by rw [beq_eq_false_iff_ne]; omega) (ifB_f (by rw [beq_eq_false_iff_ne]; omega) ⟨by omega, ?_, _, ?_, rfl, by omega, by omega, by omega, rfl, ?_⟩)⟩
    · simp only [List.length_cons, List.length_nil, List.length_take]; rw [bytesL_size]; omega
    · omega
    · rw [or16 (by omega) (by omega), show (2 * (j : Int) + 2).toNat / 2 = j + 1 by omega, show 2 * j / 2 = j by omega, List.take_add_one, show (bytesL s)[j]? = some ((bytesL s).getD j 0) by rw [List.getD_eq_getElem?_getD, List.getElem?_eq_getElem (by rw [bytesL_size]; exact hj)]; rfl, show (bytesL s).getD j 0 / 16 * 16 + (bytesL s).getD j 0 % 16 = (bytesL s).getD j 0 by omega]
      rfl
  · rw [List.take_of_length_le (by rw [bytesL_size]; omega), strL_inj_bytes]
    exact ⟨rfl, rfl⟩

section
variable (hat : K_at C) (hst : K_SomeText C) (hf1 : K_FrameText n_impl_FrameText C) (hf2 : K_FrameText n_spec_FrameText C) (hr1 : K_ReadFrame n_impl_ReadFrame C) (hr2 : K_ReadFrame n_spec_ReadFrame C)
variable (hh1 : K_Hex n_impl_HexOf C) (hh2 : K_Hex n_spec_HexOf C) (hb : K_BytesOf C) (hs1 : K_Sum n_impl_SumOf C) (hs2 : K_Sum n_spec_SumOf C)
include hat hst hf1 hf2 hr1 hr2 hh1 hh2 hb hs1 hs2
theorem p_laws_FnFrames (l1 l2 : List Int) (hb1 : isB l1) (hb2 : isB l2) : v_laws_FnFrames C (fun r os => r = .one (.bool true) ∧ os = []) l1 l2 := by
  refine ifP (fun _ => ⟨rfl, rfl⟩) (fun h1 => ifP (fun _ => ⟨rfl, rfl⟩) (fun h2 => ?_))
  have hn1 : l1.length ≤ 1048576 := by omega
  have hn2 : l2.length ≤ 1048576 := by omega
  obtain ⟨q, q0, q1, _, cq⟩ := hat l2 0 60 hb2 (by omega) hn2
  have q1 := q1 (by omega)
  have ct := hst l1 q hb1 hn1 (by omega)
  have hsz : (strL (textD l1 q)).size ≤ 59 := by rw [strL_size, textD, someL_length]; omega
  revert ct
  generalize strL (textD l1 q) = s at hsz
  intro ct
  have g := good_frame s (by omega)
  have hts := frameA_size s
  have rt := hr1 (frameA s) (by omega)
  rw [g.zero, frameS_frame s (by omega)] at rt
  obtain ⟨i, i0, i1, _, ci⟩ := hat l2 1 ((frameA s).size : Int) hb2 (by omega) hn2
  have i1 := i1 (by omega)
  obtain ⟨d, d0, d1, _, cd⟩ := hat l2 2 255 hb2 (by omega) hn2
  have d1 := d1 (by omega)
  obtain ⟨j, j0, j1, _, cj⟩ := hat l2 3 ((frameA s).size : Int) hb2 (by omega) hn2
  have j1 := j1 (by omega)
  have hbi := bytes_at (s := frameA s) (i := i.toNat)
  have hlen := bytesL_size (frameA s)
  have hw : IntKind.wrap .u8 (IntKind.wrap .i64 ((1 : Int) + d)) = 1 + d := by rw [w64 (by omega), wu8]; omega
  obtain ⟨hx1, hx2⟩ := xor_ne (x := (bytesL (frameA s)).getD i.toNat 0) (y := 1 + d) (by omega) (by omega)
  rw [← hw] at hx1 hx2
  generalize hX : bits .xor .u8 ((bytesL (frameA s)).getD i.toNat 0) (IntKind.wrap .u8 (IntKind.wrap .i64 ((1 : Int) + d))) = X at hx1 hx2
  have ebent : bytesL (((frameA s).extract (Int.toNat 0) (Int.toNat i) ++ strL [X]) ++ (frameA s).extract (Int.toNat (IntKind.wrap .i64 (i + 1))) (Int.toNat ((frameA s).size : Int))) = (bytesL (frameA s)).set i.toNat X := by
    rw [w64 (by omega), bytesL_append, bytesL_append, bytes_extract _ (by omega), bytes_extract _ (by omega), toBytes (fun y hy => by simp at hy; rw [hy]; exact hx1), List.set_eq_take_append_cons_drop, if_pos (by omega), show (i + 1).toNat = i.toNat + 1 by omega, show Int.toNat ((frameA s).size : Int) = (bytesL (frameA s)).length by omega, List.take_length, List.append_assoc]
    rfl
  have bsz : (((frameA s).extract (Int.toNat 0) (Int.toNat i) ++ strL [X]) ++ (frameA s).extract (Int.toNat (IntKind.wrap .i64 (i + 1))) (Int.toNat ((frameA s).size : Int))).size ≤ 70 := by
    rw [← bytesL_size, ebent, List.length_set]; omega
  have rb1 := hr1 _ (show (((frameA s).extract (Int.toNat 0) (Int.toNat i) ++ strL [X]) ++ (frameA s).extract (Int.toNat (IntKind.wrap .i64 (i + 1))) (Int.toNat ((frameA s).size : Int))).size ≤ 65536 by omega)
  have rb2 := hr2 _ (show (((frameA s).extract (Int.toNat 0) (Int.toNat i) ++ strL [X]) ++ (frameA s).extract (Int.toNat (IntKind.wrap .i64 (i + 1))) (Int.toNat ((frameA s).size : Int))).size ≤ 65536 by omega)
  have hbent := g.bent (i := i.toNat) (by omega) hx1 hx2
  rw [← ebent] at hbent
  have rs := hr1 ((frameA s).extract (Int.toNat 0) (Int.toNat j)) (by rw [ByteArray.size_extract]; omega)
  have eshort : bytesL ((frameA s).extract (Int.toNat 0) (Int.toNat j)) = (bytesL (frameA s)).take j.toNat := by rw [bytes_extract _ (by omega)]; rfl
  have hshort := g.short (j := j.toNat) (by omega)
  rw [← eshort] at hshort
  have rl := hr1 (frameA s ++ (⟨#[120]⟩ : ByteArray)) (by rw [ByteArray.size_append, show (⟨#[120]⟩ : ByteArray).size = 1 from rfl]; omega)
  have hlong := g.long
  rw [show (bytesL (frameA s)) ++ [120] = bytesL (frameA s ++ (⟨#[120]⟩ : ByteArray)) by rw [bytesL_append]; rfl] at hlong
  rw [hlong] at rl
  have ch := hh1 s (by omega)
  have cb := hb s (by omega)
  refine ⟨_, cq, rfl, _, ct, rfl, _, _, hf1 s (by omega), rfl, _, _, hf2 s (by omega), rfl, _, _, rt, rfl, ifN_f rfl (ifB_f (by simp) (ifN_f rfl (ifB_f (by simp) ⟨_, ci, rfl, ⟨by omega, by omega, by omega⟩, ⟨by omega, by omega⟩, ⟨by rw [w64 (by omega)]; omega, by rw [w64 (by omega)]; omega, by omega⟩, _, cd, rfl, ?_⟩)))⟩
  rw [hX]
  refine ⟨?_, ?_, _, _, rb1, rfl, _, _, rb2, rfl, _, cj, rfl, ⟨by omega, by omega, by omega⟩, _, _, rs, rfl, ?_, _, _, rl, rfl, _, ch, rfl, _, _, cb, rfl, ?_⟩
  · rw [strL_size, ByteArray.size_extract]; simp; omega
  · have := bsz; rw [ByteArray.size_append] at this; omega
  · rw [show (⟨#[120]⟩ : ByteArray).size = 1 from rfl]; omega
  · have a1 := hs1 s (by omega)
    have a2 := hs2 s (by omega)
    have a3 := hh2 s (by omega)
    refine ifB_t (by simp) (ifB_t (by simpa using hbent) ?_)
    rcases hshort with e | e
    · rw [e]
      exact ifB_f rfl (ifB_t rfl (ifB_t rfl ⟨_, a1, rfl, _, a2, rfl, ifB_t (by simp) ⟨_, a3, rfl, ifB_t (by simp) (ifB_t rfl (kb (by simp)))⟩⟩))
    · rw [e]
      exact ifB_t rfl (ifB_t rfl ⟨_, a1, rfl, _, a2, rfl, ifB_t (by simp) ⟨_, a3, rfl, ifB_t (by simp) (ifB_t rfl (kb (by simp)))⟩⟩)
end
def K_FnFrames (C : Calls_) : Prop := ∀ l1 l2 : List Int, isB l1 → isB l2 → C n_laws_FnFrames [.one (.sl (.int .u8) l1), .one (.sl (.int .u8) l2)] [] (.one (.bool true)) []
end Go.Ry
