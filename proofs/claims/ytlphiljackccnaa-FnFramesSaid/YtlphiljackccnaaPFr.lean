/- Frames: sums, frames, hex digits. No condition. -/
import Derived.Test.YtlphiljackccnaaPNum
import Derived.Laws.Strings
set_option linter.unusedVariables false
set_option linter.unusedSimpArgs false
namespace Go.Ry
variable {C : Calls_}

/-! ### bytes and strings -/
theorem bytesL_inj {a b : ByteArray} (h : bytesL a = bytesL b) : a = b := by
  have h' : a.data.toList = b.data.toList := by
    have inj : ∀ {l m : List UInt8}, l.map (fun b => (b.toNat : Int)) = m.map (fun b => (b.toNat : Int)) → l = m := by
      intro l
      induction l with
      | nil => intro m h; cases m <;> simp_all
      | cons x l ih =>
        intro m h
        cases m with
        | nil => simp at h
        | cons y m =>
          simp only [List.map_cons, List.cons.injEq] at h
          obtain ⟨h1, h2⟩ := h
          have e1 : x = y := UInt8.toNat_inj.1 (Int.ofNat_inj.1 h1)
          have e2 := ih h2
          rw [e1, e2]
    exact inj h
  exact ByteArray.ext (Array.toList_inj.1 h')
theorem toList_beq (a b : ByteArray) : (ByteArray.toList a == ByteArray.toList b) = decide (bytesL a = bytesL b) := by
  rw [ByteArray.toList_eq, ByteArray.toList_eq]
  by_cases h : bytesL a = bytesL b
  · rw [bytesL_inj h]; simp
  · rw [decide_eq_false h, beq_eq_false_iff_ne]
    intro e
    exact h (by unfold bytesL; rw [e])
theorem strL_inj_bytes (s : ByteArray) : strL (bytesL s) = s := bytesL_inj (toBytes (bytesL_isB s))
theorem xor_ne {x y : Int} (hx : 0 ≤ x ∧ x ≤ 255) (hy : 1 ≤ y ∧ y ≤ 255) : (0 ≤ bits .xor .u8 x y ∧ bits .xor .u8 x y ≤ 255) ∧ bits .xor .u8 x y ≠ x := by
  have e : bits .xor .u8 x y = (((BitVec.ofInt 8 x) ^^^ (BitVec.ofInt 8 y)).toNat : Int) % 256 := by
    simp only [bits]
    rw [wu8]; rfl
  have hb := ((BitVec.ofInt 8 x) ^^^ (BitVec.ofInt 8 y)).isLt
  refine ⟨by rw [e]; omega, ?_⟩
  rw [e]
  intro h
  obtain ⟨a, rfl⟩ := Int.eq_ofNat_of_zero_le hx.1
  obtain ⟨b, rfl⟩ := Int.eq_ofNat_of_zero_le (show 0 ≤ y by omega)
  have h1 : ((BitVec.ofInt 8 (a : Int)) ^^^ (BitVec.ofInt 8 (b : Int))).toNat = a := by omega
  have ha : a < 2 ^ 8 := by omega
  have hb' : b < 2 ^ 8 := by omega
  simp only [BitVec.ofInt_natCast, BitVec.toNat_xor, BitVec.toNat_ofNat, Nat.mod_eq_of_lt ha, Nat.mod_eq_of_lt hb'] at h1
  have h2 : a ^^^ (a ^^^ b) = a ^^^ a := by rw [h1]
  rw [← Nat.xor_assoc, Nat.xor_self, Nat.zero_xor] at h2
  omega

/-! ### sums -/
def sumL : Int → List Int → Int
  | a, [] => a
  | a, b :: l => sumL ((31 * a + b) % 32749) l
theorem sumL_range : ∀ (l : List Int) (a : Int), 0 ≤ a ∧ a < 32749 → 0 ≤ sumL a l ∧ sumL a l < 32749
  | [], _, h => h
  | b :: l, a, h => sumL_range l _ (by omega)
theorem sumL_inj : ∀ (l : List Int) (a b : Int), 0 ≤ a ∧ a < 32749 → 0 ≤ b ∧ b < 32749 → sumL a l = sumL b l → a = b
  | [], _, _, _, _, h => h
  | c :: l, a, b, ha, hb, h => by
    have := sumL_inj l _ _ (by omega) (by omega) h
    omega
theorem sumL_set : ∀ (l : List Int) (i : Nat) (x a : Int), isB l → 0 ≤ x ∧ x ≤ 255 → 0 ≤ a ∧ a < 32749 → i < l.length → sumL a (l.set i x) = sumL a l → l.getD i 0 = x
  | [], _, _, _, _, _, _, h, _ => by simp at h
  | c :: l, 0, x, a, hl, hx, ha, _, h => by
    have hc := hl c (by simp)
    have := sumL_inj l _ _ (by omega) (by omega) h
    simp; omega
  | c :: l, i + 1, x, a, hl, hx, ha, hi, h => by
    have := sumL_set l i x _ (fun y hy => hl y (by simp [hy])) hx (by omega) (by simpa using hi) h
    simpa using this
theorem drop_at (s : ByteArray) {i : Nat} (hi : i < s.size) : (bytesL s).drop i = (bytesL s).getD i 0 :: (bytesL s).drop (i + 1) := by
  rw [List.drop_eq_getElem_cons (by rw [bytesL_size]; exact hi), List.getD_eq_getElem?_getD, List.getElem?_eq_getElem (by rw [bytesL_size]; exact hi)]; rfl
def K_Sum (n : Nat) (C : Calls_) : Prop := ∀ s : ByteArray, s.size ≤ 65536 → C n [.one (.str s)] [] (.one (.int .i64 (sumL 1 (bytesL s)))) []
theorem sum_step {s : ByteArray} {a i : Int} (h0 : 0 ≤ i) (hi : i < s.size) (ha : 0 ≤ a ∧ a < 32749) :
    Int.tmod (IntKind.wrap .i64 ((IntKind.wrap .i64 ((31 : Int) * a)) + (IntKind.wrap .i64 ((bytesL s).getD (Int.toNat i) 0)))) (32749 : Int) = (31 * a + (bytesL s).getD i.toNat 0) % 32749 := by
  have := bytes_at (s := s) (i := i.toNat)
  rw [w64 (x := 31 * a) (by omega), w64 (x := (bytesL s).getD i.toNat 0) (by omega), w64 (by omega), tm (by omega)]
theorem p_spec_l01Sum (s : ByteArray) (hs : s.size ≤ 65536) : v_spec_l01Sum C (fun r os => r = .one (.int .i64 (sumL 1 (bytesL s))) ∧ os = []) s := by
  refine ⟨fun m t a i => s = t ∧ (0 ≤ a ∧ a < 32749) ∧ 0 ≤ i ∧ i ≤ s.size ∧ m = (s.size - i).toNat ∧ sumL a ((bytesL s).drop i.toNat) = sumL 1 (bytesL s), ⟨_, rfl, by omega, by omega, by omega, rfl, rfl⟩, ?_⟩
  rintro m _ a i ⟨rfl, ha, h0, h1, rfl, h2⟩
  refine ifP (fun hlt => ⟨⟨h0, by omega⟩, by omega, ?_⟩) (fun hge => ?_)
  · have hb := bytes_at (s := s) (i := i.toNat)
    rw [sum_step h0 hlt ha, w64 (x := i + 1) (by omega)]
    rw [drop_at s (by omega)] at h2
    exact ⟨_, by omega, rfl, by omega, by omega, by omega, rfl, by rw [toNat_succ h0]; exact h2⟩
  · rw [List.drop_eq_nil_of_le (by rw [bytesL_size]; omega)] at h2
    rw [← h2]; exact ⟨rfl, rfl⟩
theorem p_impl_SumOf (s : ByteArray) (hs : s.size ≤ 65536) : v_impl_SumOf C (fun r os => r = .one (.int .i64 (sumL 1 (bytesL s))) ∧ os = []) s := by
  refine ifP_f (by omega) ⟨fun m t a n i => s = t ∧ n = s.size ∧ (0 ≤ a ∧ a < 32749) ∧ 0 ≤ i ∧ i ≤ s.size ∧ m = (s.size - i).toNat ∧ sumL a ((bytesL s).drop i.toNat) = sumL 1 (bytesL s), ⟨_, rfl, rfl, by omega, by omega, by omega, rfl, rfl⟩, ?_⟩
  rintro m _ a _ i ⟨rfl, rfl, ha, h0, h1, rfl, h2⟩
  refine ifP (fun hlt => ⟨⟨h0, by omega⟩, by omega, ?_⟩) (fun hge => ?_)
  · have hb := bytes_at (s := s) (i := i.toNat)
    rw [sum_step h0 hlt ha, w64 (x := i + 1) (by omega)]
    rw [drop_at s (by omega)] at h2
    exact ⟨_, by omega, rfl, rfl, by omega, by omega, by omega, rfl, by rw [toNat_succ h0]; exact h2⟩
  · rw [List.drop_eq_nil_of_le (by rw [bytesL_size]; omega)] at h2
    rw [← h2]; exact ⟨rfl, rfl⟩
theorem p_spec_SumOf (h : K_Sum n_spec_l01Sum C) (s : ByteArray) (hs : s.size ≤ 65536) : v_spec_SumOf C (fun r os => r = .one (.int .i64 (sumL 1 (bytesL s))) ∧ os = []) s :=
  ifP_f (by omega) ⟨_, h s hs, rfl, rfl, rfl⟩

/-! ### frames -/
def magicA : ByteArray := ⟨#[80, 76, 67, 49]⟩
def headA (s : ByteArray) : ByteArray := magicA ++ strL (leB s.size 4) ++ s
def frameA (s : ByteArray) : ByteArray := headA s ++ strL (leB (sumL 1 (bytesL (headA s))) 2)
theorem magicA_bytes : bytesL magicA = [80, 76, 67, 49] := by decide
theorem magicA_size : magicA.size = 4 := rfl
theorem headA_size (s : ByteArray) : (headA s).size = 8 + s.size := by simp [headA, ByteArray.size_append, magicA_size, strL_size, leB_length]
theorem frameA_size (s : ByteArray) : (frameA s).size = 10 + s.size := by simp [frameA, ByteArray.size_append, headA_size, strL_size, leB_length]; omega
def K_FrameText (n : Nat) (C : Calls_) : Prop := ∀ s : ByteArray, s.size ≤ 65526 → C n [.one (.str s)] [] (strI (frameA s) 0) []
def K_Frame (C : Calls_) : Prop := ∀ s : ByteArray, s.size ≤ 65526 → C n_spec_l01Frame [.one (.str s)] [] (.one (.str (frameA s))) []
theorem p_spec_l01Frame (hp : K_put n_spec_l01Put C) (hs : K_Sum n_spec_l01Sum C) (s : ByteArray) (h : s.size ≤ 65526) : v_spec_l01Frame C (fun r os => r = .one (.str (frameA s)) ∧ os = []) s := by
  have a := hp s.size 4 (by simp [isZ])
  have b := hs (headA s) (by rw [headA_size]; omega)
  have c := hp (sumL 1 (bytesL (headA s))) 2 (by simp [isZ])
  refine ⟨_, a, rfl, ?_, ?_, _, b, rfl, _, c, rfl, ?_, rfl, rfl⟩
  · rw [strL_size, leB_length, show (⟨#[80, 76, 67, 49]⟩ : ByteArray).size = 4 from rfl]; decide
  · simp [ByteArray.size_append, strL_size, leB_length, show (⟨#[80, 76, 67, 49]⟩ : ByteArray).size = 4 from rfl]; omega
  · simp [ByteArray.size_append, strL_size, leB_length, show (⟨#[80, 76, 67, 49]⟩ : ByteArray).size = 4 from rfl]; omega
theorem p_spec_FrameText (hf : K_Frame C) (s : ByteArray) (h : s.size ≤ 65526) : v_spec_FrameText C (fun r os => r = strI (frameA s) 0 ∧ os = []) s :=
  ifP_f (by omega) (ifP_f (by omega) ⟨_, hf s h, rfl, rfl, rfl⟩)
theorem p_impl_FrameText (hl : K_long C) (hw : K_when C) (hf : K_first C) (hp : K_put n_impl_put C) (hs : K_Sum n_impl_SumOf C) (s : ByteArray) (h : s.size ≤ 65526) : v_impl_FrameText C (fun r os => r = strI (frameA s) 0 ∧ os = []) s := by
  have k0 := hl s
  rw [if_neg (by omega)] at k0
  have k1 := hw (decide ((s.size : Int) > (65526 : Int))) 8
  rw [if_neg (by simp; omega)] at k1
  have a := hp s.size 4 (by simp [isZ])
  have b := hs (headA s) (by rw [headA_size]; omega)
  have c := hp (sumL 1 (bytesL (headA s))) 2 (by simp [isZ])
  refine ⟨_, k0, rfl, _, k1, rfl, _, hf _ (by simp), rfl, ifN_f rfl ⟨_, a, rfl, ?_, ?_, _, b, rfl, _, c, rfl, ?_, rfl, rfl⟩⟩
  · rw [strL_size, leB_length, show (⟨#[80, 76, 67, 49]⟩ : ByteArray).size = 4 from rfl]; decide
  · simp [ByteArray.size_append, strL_size, leB_length, show (⟨#[80, 76, 67, 49]⟩ : ByteArray).size = 4 from rfl]; omega
  · simp [ByteArray.size_append, strL_size, leB_length, show (⟨#[80, 76, 67, 49]⟩ : ByteArray).size = 4 from rfl]; omega

/-- The code of what is read as a frame. -/
def frameE (l : List Int) : Int :=
  if l.length < 10 then 16 else if l.take 4 ≠ [80, 76, 67, 49] then 3 else if sgn 4 (leN ((l.drop 4).take 4)) ≠ (l.length : Int) - 10 then 8
  else if sgn 2 (leN (l.drop (l.length - 2))) ≠ sumL 1 (l.take (l.length - 2)) then 9 else 0
def frameS (s : ByteArray) : ByteArray := if frameE (bytesL s) = 0 then s.extract 8 (s.size - 2) else ⟨#[]⟩
def K_ReadFrame (n : Nat) (C : Calls_) : Prop := ∀ s : ByteArray, s.size ≤ 65536 → C n [.one (.str s)] [] (strI (frameS s) (frameE (bytesL s))) []
theorem magic_eq (s : ByteArray) (h : 4 ≤ s.size) : (ByteArray.toList (s.extract (Int.toNat 0) (Int.toNat 4)) == ByteArray.toList (⟨#[80, 76, 67, 49]⟩ : ByteArray)) = decide ((bytesL s).take 4 = [80, 76, 67, 49]) := by
  rw [toList_beq, bytes_extract s (by simpa using h), show bytesL (⟨#[80, 76, 67, 49]⟩ : ByteArray) = [80, 76, 67, 49] from magicA_bytes]; rfl
theorem p_impl_ReadFrame (hl : K_long C) (hw : K_when C) (hf : K_first C) (ht : K_takeZ C) (hs : K_Sum n_impl_SumOf C) (s : ByteArray) (h : s.size ≤ 65536) :
    v_impl_ReadFrame C (fun r os => r = strI (frameS s) (frameE (bytesL s)) ∧ os = []) s := by
  have hlen := bytesL_size s
  have k0 := hl s
  rw [if_neg (by omega)] at k0
  have k1 := hw (decide ((s.size : Int) < (10 : Int))) 16
  refine ⟨_, k0, rfl, _, k1, rfl, _, hf _ (by simp), rfl, ?_⟩
  by_cases h10 : s.size < 10
  · rw [if_pos (by simp; omega)]
    refine ifB_t (by simp [firstN]) ?_
    have e : frameE (bytesL s) = 16 := by unfold frameE; rw [if_pos (by omega)]
    unfold frameS
    rw [e]; exact ⟨rfl, rfl⟩
  rw [if_neg (by simp; omega)]
  refine ifN_f rfl ⟨⟨by omega, by omega, by omega⟩, ⟨by omega, by omega, by omega⟩, ?_⟩
  rw [w64 (x := (s.size : Int) - 2) (by omega), w64 (x := (s.size : Int) - 10) (by omega), show ((s.size : Int) - 2).toNat = s.size - 2 by omega, show Int.toNat (s.size : Int) = s.size by omega, show Int.toNat 0 = 0 from rfl, show Int.toNat 4 = 4 from rfl, show Int.toNat 8 = 8 from rfl]
  have z1 : ((s.extract 4 8).size : Int) = 4 := by rw [ByteArray.size_extract]; omega
  have z2 : ((s.extract (s.size - 2) s.size).size : Int) = 2 := by rw [ByteArray.size_extract]; omega
  have t1 := ht (s.extract 4 8) (by rw [z1]; simp [isZ])
  have t2 := ht (s.extract (s.size - 2) s.size) (by rw [z2]; simp [isZ])
  have u := hs (s.extract 0 (s.size - 2)) (by rw [ByteArray.size_extract]; omega)
  rw [z1, bytes_extract s (by omega), List.drop_take] at t1
  rw [z2, bytes_extract s (by omega), List.take_of_length_le (by omega)] at t2
  rw [bytes_extract s (by omega), List.drop_zero] at u
  have mg := magic_eq s (by omega)
  rw [show Int.toNat 0 = 0 from rfl, show Int.toNat 4 = 4 from rfl] at mg
  rw [mg]
  refine ⟨⟨by omega, by omega, by omega⟩, ⟨by omega, by omega, by omega⟩, _, hw _ _, rfl, _, t1, rfl, _, hw _ _, rfl, _, t2, rfl, _, u, rfl, _, hw _ _, rfl, _, hf _ (by simp), rfl, ?_⟩
  unfold frameS frameE
  rw [if_neg (show ¬ (bytesL s).length < 10 by omega), hlen]
  by_cases c1 : (bytesL s).take 4 = [80, 76, 67, 49]
  · rw [if_neg (show ¬ (!decide ((bytesL s).take 4 = [80, 76, 67, 49])) = true by simp [c1]), if_neg (show ¬ (bytesL s).take 4 ≠ [80, 76, 67, 49] by simp [c1])]
    by_cases c2 : sgn 4 (leN (((bytesL s).drop 4).take 4)) = (s.size : Int) - 10
    · rw [if_neg (show ¬ sgn 4 (leN (((bytesL s).drop 4).take 4)) ≠ (s.size : Int) - 10 by simp [c2])]
      rw [if_neg (show ¬ (sgn 4 (leN (((bytesL s).drop 4).take (8 - 4))) != (s.size : Int) - 10) = true by simp [c2])]
      by_cases c3 : sgn 2 (leN ((bytesL s).drop (s.size - 2))) = sumL 1 ((bytesL s).take (s.size - 2))
      · rw [if_neg (show ¬ (sgn 2 (leN ((bytesL s).drop (s.size - 2))) != sumL 1 ((bytesL s).take (s.size - 2))) = true by simp [c3]), if_neg (show ¬ sgn 2 (leN ((bytesL s).drop (s.size - 2))) ≠ sumL 1 ((bytesL s).take (s.size - 2)) by simp [c3])]
        exact ifN_f rfl ⟨⟨by omega, by omega, by omega⟩, rfl, rfl⟩
      · rw [if_pos (show (sgn 2 (leN ((bytesL s).drop (s.size - 2))) != sumL 1 ((bytesL s).take (s.size - 2))) = true by simp [c3]), if_pos (show sgn 2 (leN ((bytesL s).drop (s.size - 2))) ≠ sumL 1 ((bytesL s).take (s.size - 2)) from c3)]
        exact ifB_t rfl ⟨rfl, rfl⟩
    · rw [if_pos (show sgn 4 (leN (((bytesL s).drop 4).take 4)) ≠ (s.size : Int) - 10 from c2), if_pos (show (sgn 4 (leN (((bytesL s).drop 4).take (8 - 4))) != (s.size : Int) - 10) = true by simp [c2])]
      exact ifB_t rfl ⟨rfl, rfl⟩
  · rw [if_pos (show (!decide ((bytesL s).take 4 = [80, 76, 67, 49])) = true by simp [c1]), if_pos (show (bytesL s).take 4 ≠ [80, 76, 67, 49] from c1)]
    exact ifB_t rfl ⟨rfl, rfl⟩

/-- The reference's number from bytes. -/
theorem top_half {l : List Int} {z : Int} (hz : isZ z) (hl : (l.length : Int) = z) (hb : isB l) : (128 ≤ l.getD (z.toNat - 1) 0) ↔ half z ≤ leN l := by
  rcases hz with rfl | rfl | rfl
  · match l, hl with
    | [a], _ => simp [leN, half]
  · match l, hl with
    | [a, b], _ =>
      have h1 := hb a (by simp); have h2 := hb b (by simp)
      simp [leN, half]; omega
  · match l, hl with
    | [a, b, c, d], _ =>
      have h1 := hb a (by simp); have h2 := hb b (by simp); have h3 := hb c (by simp); have h4 := hb d (by simp)
      simp [leN, half]; omega
def K_l01TakeZ (C : Calls_) : Prop := ∀ (s : ByteArray) (n : Nat) (z : Int), isZ z → n + z.toNat ≤ s.size → s.size ≤ 65536 → C n_spec_l01Take [.one (.str s), .one (.int .i64 n), .one (.int .i64 z)] [] (.one (.int .i64 (sgn z (leN (((bytesL s).drop n).take z.toNat))))) []
theorem p_spec_l01TakeZ (s : ByteArray) (n : Nat) (z : Int) (hz : isZ z) (h : n + z.toNat ≤ s.size) (hs : s.size ≤ 65536) :
    v_spec_l01Take C (fun r os => r = .one (.int .i64 (sgn z (leN (((bytesL s).drop n).take z.toNat)))) ∧ os = []) s n z := by
  have hz' : 1 ≤ z ∧ z ≤ 4 := by rcases hz with rfl | rfl | rfl <;> omega
  have hlen := bytesL_size s
  have hsub : ∀ l : List Int, (∀ x, x ∈ l → x ∈ bytesL s) → isB l := fun l h x hx => bytesL_isB s x (h x hx)
  generalize hq : ((bytesL s).drop n).take z.toNat = q
  have hql : q.length = z.toNat := by rw [← hq]; simp; omega
  have hqb : isB q := hsub q fun x hx => by rw [← hq] at hx; exact List.mem_of_mem_drop (List.mem_of_mem_take hx)
  have hget : ∀ i : Nat, i < z.toNat → (bytesL s).getD (n + i) 0 = q.getD i 0 := by
    intro i hi
    rw [← hq, List.getD_eq_getElem?_getD, List.getD_eq_getElem?_getD, List.getElem?_take_of_lt hi, List.getElem?_drop]
  have hst : ∀ i : Nat, i < z.toNat → leN (q.drop i) = q.getD i 0 + 256 * leN (q.drop (i + 1)) := by
    intro i hi
    rw [List.drop_eq_getElem_cons (by omega), leN, List.getD_eq_getElem?_getD, List.getElem?_eq_getElem (by omega)]; rfl
  have hr : ∀ i : Nat, 0 ≤ leN (q.drop i) ∧ leN (q.drop i) < 4294967296 := by
    intro i
    have hb : isB (q.drop i) := fun x hx => hqb x (List.mem_of_mem_drop hx)
    have := leN_range hb
    have h4 : (q.drop i).length ≤ 4 := by simp; omega
    have hc : (q.drop i).length = 0 ∨ (q.drop i).length = 1 ∨ (q.drop i).length = 2 ∨ (q.drop i).length = 3 ∨ (q.drop i).length = 4 := by omega
    rcases hc with e | e | e | e | e <;> rw [e] at this <;> simp only [Int.reducePow] at this <;> omega
  refine ⟨fun t a y v => s = t ∧ a = n ∧ z = y ∧ v = leN q,
    ⟨fun m t a y v i => (s = t ∧ a = n ∧ z = y) ∧ -1 ≤ i ∧ i < z ∧ m = (i + 1).toNat ∧ v = leN (q.drop m), ⟨z.toNat, ⟨rfl, rfl, rfl⟩, ?_, ?_, ?_, ?_⟩, ?_⟩, ?_⟩
  · rw [w64 (by omega)]; omega
  · rw [w64 (by omega)]; omega
  · rw [w64 (by omega)]; omega
  · rw [List.drop_eq_nil_of_le (by omega)]; rfl
  · rintro m t a y v i ⟨⟨rfl, rfl, rfl⟩, h0, h1, rfl, rfl⟩
    refine ifP (fun hge => ?_) (fun hlt => ⟨rfl, rfl, rfl, ?_⟩)
    · have a1 := hr (i + 1).toNat
      have a2 := bytes_at (s := s) (i := n + i.toNat)
      have a3 := hst i.toNat (by omega)
      have a4 := hget i.toNat (by omega)
      rw [w64 (x := (n : Int) + i) (by omega), w64 (x := i - 1) (by omega), show ((n : Int) + i).toNat = n + i.toNat by omega, w64 (x := 256 * leN _) (by omega), w64 (x := (bytesL s).getD (n + i.toNat) 0) (by omega), w64 (by omega)]
      refine ⟨⟨by omega, by omega⟩, i.toNat, by omega, ⟨rfl, rfl, rfl⟩, by omega, by omega, by omega, ?_⟩
      rw [a3, a4, show i.toNat + 1 = (i + 1).toNat by omega]; omega
    · rw [show (i + 1).toNat = 0 by omega]; rfl
  · rintro t a y v ⟨rfl, rfl, rfl, rfl⟩
    have a1 := hr 0
    rw [List.drop_zero] at a1
    have hh := half_range (z := z)
    have th := top_half hz (by omega) hqb
    have a4 := hget (z.toNat - 1) (by omega)
    rw [w64 (x := (n : Int) + z) (by omega), w64 (x := (n : Int) + z - 1) (by omega), show ((n : Int) + z - 1).toNat = n + (z.toNat - 1) by omega, a4]
    have e2 : IntKind.wrap .i64 ((1 : Int) * 2 ^ min (Int.toNat (IntKind.wrap .u64 (IntKind.wrap .i64 ((8 : Int) * z)))) (IntKind.bits .i64)) = 2 * half z := by rcases hz with rfl | rfl | rfl <;> decide
    refine ⟨⟨by omega, by omega⟩, ifP (fun hge => ⟨by rcases hz with rfl | rfl | rfl <;> decide, ?_, rfl⟩) (fun hlt => ⟨?_, rfl⟩)⟩
    · rw [e2, w64 (by omega), sgn, if_pos (th.1 hge)]
    · rw [sgn, if_neg (fun h => hlt (th.2 h))]
def K_l01ReadFrame (C : Calls_) : Prop := ∀ s : ByteArray, s.size ≤ 65536 → C n_spec_l01ReadFrame [.one (.str s)] [] (strI (frameS s) (frameE (bytesL s))) []
theorem p_spec_l01ReadFrame (ht : K_l01TakeZ C) (hs : K_Sum n_spec_l01Sum C) (s : ByteArray) (h : s.size ≤ 65536) :
    v_spec_l01ReadFrame C (fun r os => r = strI (frameS s) (frameE (bytesL s)) ∧ os = []) s := by
  have hlen := bytesL_size s
  unfold frameS frameE
  rw [hlen]
  refine ifP (fun h10 => ?_) (fun h10 => ?_)
  · rw [if_pos (show s.size < 10 by omega)]; exact ⟨rfl, rfl⟩
  rw [if_neg (show ¬ s.size < 10 by omega), magic_eq s (by omega)]
  refine ⟨⟨by omega, by omega, by omega⟩, ifB_cases (fun c1 => ?_) (fun c1 => ?_)⟩
  · have c1 : (bytesL s).take 4 ≠ [80, 76, 67, 49] := of_decide_eq_false (not_t c1)
    rw [if_pos c1]; exact ⟨rfl, rfl⟩
  have c1 : (bytesL s).take 4 = [80, 76, 67, 49] := of_decide_eq_true (not_f c1)
  rw [if_neg (show ¬ (bytesL s).take 4 ≠ [80, 76, 67, 49] by simp [c1])]
  have t1 := ht s 4 4 (by simp [isZ]) (by simp; omega) h
  have t2 := ht s (s.size - 2) 2 (by simp [isZ]) (by simp; omega) h
  have u := hs (s.extract 0 (s.size - 2)) (by rw [ByteArray.size_extract]; omega)
  rw [bytes_extract s (by omega), List.drop_zero] at u
  rw [show (2 : Int).toNat = 2 from rfl, List.take_of_length_le (by simp; omega), show ((s.size - 2 : Nat) : Int) = (s.size : Int) - 2 by omega] at t2
  rw [w64 (x := (s.size : Int) - 2) (by omega), w64 (x := (s.size : Int) - 10) (by omega), show ((s.size : Int) - 2).toNat = s.size - 2 by omega]
  refine ⟨_, t1, rfl, ifN (fun c2 => ?_) (fun c2 => ⟨⟨by omega, by omega, by omega⟩, _, t2, rfl, _, u, rfl, ifN (fun c3 => ?_) (fun c3 => ⟨⟨by omega, by omega, by omega⟩, ?_⟩)⟩)⟩
  · have c2 : sgn 4 (leN (((bytesL s).drop 4).take 4)) ≠ (s.size : Int) - 10 := c2
    rw [if_pos c2]; exact ⟨rfl, rfl⟩
  · have c2 : sgn 4 (leN (((bytesL s).drop 4).take 4)) = (s.size : Int) - 10 := c2
    rw [if_neg (not_not_intro c2), if_pos c3]; exact ⟨rfl, rfl⟩
  · have c2 : sgn 4 (leN (((bytesL s).drop 4).take 4)) = (s.size : Int) - 10 := c2
    rw [if_neg (not_not_intro c2), if_neg (not_not_intro c3)]; exact ⟨rfl, rfl⟩
theorem p_spec_ReadFrame (hr : K_l01ReadFrame C) (s : ByteArray) (h : s.size ≤ 65536) : v_spec_ReadFrame C (fun r os => r = strI (frameS s) (frameE (bytesL s)) ∧ os = []) s :=
  ifP_f (by omega) ⟨_, _, hr s h, rfl, rfl, rfl⟩
end Go.Ry
