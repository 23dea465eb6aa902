/- Texts Byt1, Byt2, Byt3, one behind the other. No condition. -/
import Derived.Test.YtopchiaiefkehaaGreatPNum1
import Derived.Test.YtopchiaiefkehaaGreatPStr
import Derived.Laws.BitsLemmas
import Derived.Laws.Strings
import Derived.Test.YtopchiaiefkehaaGreatPNum2
set_option linter.unusedVariables false
set_option linter.unusedSimpArgs false
namespace Go.Ry
open Go.Proofs

def isB (l : List Int) : Prop := ∀ x ∈ l, 0 ≤ x ∧ x ≤ 255
theorem notF {b : Bool} (h : (!b) = false) : b = true := by simpa using h
theorem notT {b : Bool} (h : (!b) = true) : b = false := by simpa using h
theorem bytes_at {s : ByteArray} {i : Nat} : 0 ≤ (bytesL s).getD i 0 ∧ (bytesL s).getD i 0 < 256 := by
  simp only [bytesL, List.getD_eq_getElem?_getD, List.getElem?_map]
  cases h : s.data.toList[i]? with
  | none => simp
  | some b =>
    have := b.toNat_lt
    simp; omega
theorem bytes_extract (s : ByteArray) {a b : Nat} (h : b ≤ s.size) : bytesL (s.extract a b) = ((bytesL s).take b).drop a := by
  have e : (s.extract a b).data = s.data.extract a b := by
    simp [ByteArray.data_extract]
  simp only [bytesL, e, Array.toList_extract, List.extract_eq_take_drop, List.map_take, List.map_drop]
  rw [List.drop_take]
theorem or_byte {x y : Int} (hx : 0 ≤ x ∧ x < 36028797018963968) (hy : 0 ≤ y ∧ y < 256) : bits .or .i64 (x * 256) y = x * 256 + y := by
  refine bits_join .i64 63 (by decide) (fun n h0 h1 => ?_) 8 (x * 256) y (by omega) (by omega) ?_ hy.1 (by omega) ?_
  · rw [IntKind.wrap_i64]; have h2 : n < 9223372036854775808 := by simpa using h1
    omega
  · show x * 256 < 9223372036854775808; omega
  · show y < 9223372036854775808; omega
def leN : List Int → Int
  | [] => 0
  | x :: l => x + 256 * leN l
def half (z : Int) : Int := if z = 1 then 128 else if z = 2 then 32768 else 2147483648
def sgn (z v : Int) : Int := if half z ≤ v then v - 2 * half z else v
def isZ (z : Int) : Prop := z = 1 ∨ z = 2 ∨ z = 4
theorem half_range {z : Int} : 128 ≤ half z ∧ half z ≤ 2147483648 := by unfold half; split; omega; split <;> omega
theorem bound_eq {z : Int} (hz : isZ z) : wI ((1 : Int) * 2 ^ min (Int.toNat (wI ((wI ((8 : Int) * z)) - (1 : Int)))) (IntKind.bits .i64)) = half z := by
  rcases hz with rfl | rfl | rfl <;> decide
theorem leN_range {l : List Int} (h : isB l) : 0 ≤ leN l ∧ leN l < 256 ^ l.length := by
  induction l with
  | nil => simp [leN]
  | cons x l ih =>
    have hx := h x (by simp)
    have := ih (fun y hy => h y (by simp [hy]))
    simp only [leN, List.length_cons, Int.pow_succ]
    omega
theorem bytesL_isB (s : ByteArray) : isB (bytesL s) := by
  intro x hx
  simp only [bytesL, List.mem_map] at hx
  obtain ⟨b, _, rfl⟩ := hx
  have := b.toNat_lt
  omega
theorem leN_small {l : List Int} (h : isB l) (h4 : l.length ≤ 4) : 0 ≤ leN l ∧ leN l < 4294967296 := by
  have := leN_range h
  have hc : l.length = 0 ∨ l.length = 1 ∨ l.length = 2 ∨ l.length = 3 ∨ l.length = 4 := by omega
  rcases hc with e | e | e | e | e <;> rw [e] at this <;> simp only [Int.reducePow] at this <;> omega
/-- The number that z bytes hold. -/
def numZ (z : Nat) (l : List Int) : Int := sgn z (leN (l.take z))
theorem numZ_range {z : Nat} (hz : isZ z) {l : List Int} (h : isB l) : -2147483648 ≤ numZ z l ∧ numZ z l ≤ 4294967295 := by
  have := leN_small (l := l.take z) (fun x hx => h x (List.mem_of_mem_take hx)) (by rw [List.length_take]; rcases hz with h | h | h <;> omega)
  have hh := half_range (z := z)
  unfold numZ sgn
  split <;> omega
theorem numZ_one {l : List Int} (h : isB l) : -128 ≤ numZ 1 l ∧ numZ 1 l ≤ 127 := by
  match l with
  | [] => simp [numZ, leN, sgn, half]
  | a :: l =>
    have := h a (by simp)
    have e : leN ((a :: l).take 1) = a := by simp [leN]
    unfold numZ sgn half
    rw [e]
    simp
    split <;> omega
theorem c_impl_take (s : ByteArray) (h : isZ s.size) : TT n_impl_take [eS s] [] (eI (numZ s.size (bytesL s))) [] := by
  have hsz : (1 : Int) ≤ s.size ∧ (s.size : Int) ≤ 4 := by rcases h with h | h | h <;> omega
  have e8 : (2 : Int) ^ min (Int.toNat (8 : Int)) (IntKind.bits .i64) = 256 := by decide
  have hlen := bytesL_size s
  have hn : numZ s.size (bytesL s) = sgn s.size (leN (bytesL s)) := by unfold numZ; rw [List.take_of_length_le (by omega)]
  rw [hn]
  have hr : ∀ i : Nat, 0 ≤ leN ((bytesL s).drop i) ∧ leN ((bytesL s).drop i) < 4294967296 := fun i =>
    leN_small (fun x hx => bytesL_isB s x (List.mem_of_mem_drop hx)) (by simp; omega)
  have hst : ∀ i : Nat, i < s.size → leN ((bytesL s).drop i) = (bytesL s).getD i 0 + 256 * leN ((bytesL s).drop (i + 1)) := by
    intro i hi
    rw [drop_getD (by omega) 0, leN]
  refine r_impl_take s ⟨fun v => v = leN (bytesL s),
    ⟨fun m v i => -1 ≤ i ∧ i < s.size ∧ m = (i + 1).toNat ∧ v = leN ((bytesL s).drop m), ⟨s.size, rfl, ?_, ?_, ?_, ?_⟩, ?_⟩, ?_⟩
  · rw [w64 (by omega)]; omega
  · rw [w64 (by omega)]; omega
  · rw [w64 (by omega)]; omega
  · rw [List.drop_eq_nil_of_le (by omega)]; rfl
  · rintro m v i ⟨h0, h1, rfl, rfl⟩
    refine ifP (fun hge => ?_) (fun hlt => ⟨rfl, ?_⟩)
    · have a1 := hr (i + 1).toNat
      have a2 := bytes_at (s := s) (i := i.toNat)
      have a3 := hst i.toNat (by omega)
      rw [e8, w64 (x := i - 1) (by omega), w64 (x := leN _ * 256) (by omega), w64 (x := (bytesL s).getD i.toNat 0) (by omega), or_byte (by omega) a2]
      refine ⟨by decide, ⟨by omega, by omega⟩, i.toNat, by omega, rfl, by omega, by omega, by omega, ?_⟩
      rw [a3, show i.toNat + 1 = (i + 1).toNat by omega]; omega
    · rw [show (i + 1).toNat = 0 by omega]; rfl
  · rintro v rfl
    have a1 := hr 0
    rw [List.drop_zero] at a1
    have hh := half_range (z := s.size)
    rw [bound_eq h]
    refine ⟨by rcases h with h | h | h <;> rw [h] <;> decide, ifP (fun hge => ⟨?_, rfl⟩) (fun hlt => ⟨?_, rfl⟩)⟩
    · rw [w64 (x := 2 * half s.size) (by omega), w64 (by omega), sgn, if_pos (by omega)]
    · rw [sgn, if_neg (by omega)]
theorem top_half {l : List Int} {z : Int} (hz : isZ z) (hl : (l.length : Int) = z) (hb : isB l) : (128 ≤ l.getD (z.toNat - 1) 0) ↔ half z ≤ leN l := by
  rcases hz with rfl | rfl | rfl
  · match l, hl with
    | [a], _ => simp [leN, half]
  · match l, hl with
    | [a, b], _ =>
      have h1 := hb a (by simp); have h2 := hb b (by simp)
      simp [leN, half]; omega
  · match l, hl with
    | [a, b, c, d], _ =>
      have h1 := hb a (by simp); have h2 := hb b (by simp); have h3 := hb c (by simp); have h4 := hb d (by simp)
      simp [leN, half]; omega
def sumL : Int → List Int → Int
  | a, [] => a
  | a, b :: l => sumL ((31 * a + b) % 32749) l
theorem drop_at (s : ByteArray) {i : Nat} (hi : i < s.size) : (bytesL s).drop i = (bytesL s).getD i 0 :: (bytesL s).drop (i + 1) := drop_getD (by rw [bytesL_size]; exact hi) 0
theorem sum_step {s : ByteArray} {a i : Int} (h0 : 0 ≤ i) (hi : i < s.size) (ha : 0 ≤ a ∧ a < 32749) :
    Int.tmod (wI ((wI (31 * a)) + (wI ((bytesL s).getD (Int.toNat i) 0)))) 32749 = (31 * a + (bytesL s).getD i.toNat 0) % 32749 := by
  have := bytes_at (s := s) (i := i.toNat)
  rw [w64 (x := 31 * a) (by omega), w64 (x := (bytesL s).getD i.toNat 0) (by omega), w64 (by omega), Int.tmod_eq_emod_of_nonneg (by omega)]
theorem c_impl_SumOf (s : ByteArray) (hs : s.size ≤ 65536) : TT n_impl_SumOf [eS s] [] (eI (sumL 1 (bytesL s))) [] := by
  refine r_impl_SumOf s (ifP_f (by omega) ⟨fun m a i => (0 ≤ a ∧ a < 32749) ∧ 0 ≤ i ∧ i ≤ s.size ∧ m = (s.size - i).toNat ∧ sumL a ((bytesL s).drop i.toNat) = sumL 1 (bytesL s), ⟨_, rfl, by omega, by omega, by omega, rfl, rfl⟩, ?_⟩)
  rintro m a i ⟨ha, h0, h1, rfl, h2⟩
  refine ifP (fun hlt => ⟨⟨h0, by omega⟩, by omega, ?_⟩) (fun hge => ?_)
  · have hb := bytes_at (s := s) (i := i.toNat)
    rw [sum_step h0 hlt ha, w64 (x := i + 1) (by omega)]
    rw [drop_at s (by omega)] at h2
    exact ⟨_, by omega, rfl, by omega, by omega, by omega, rfl, by rw [toNat_succ h0]; exact h2⟩
  · rw [List.drop_eq_nil_of_le (by rw [bytesL_size]; omega)] at h2
    rw [← h2]; exact ⟨rfl, rfl⟩
end Go.Ry

set_option linter.unusedVariables false
set_option linter.unusedSimpArgs false
namespace Go.Ry
open Go.Proofs

theorem toBytes {l : List Int} (h : isB l) : bytesL (strL l) = l := by
  induction l with
  | nil => rfl
  | cons x l ih =>
    have hx := h x (by simp)
    have := ih (fun y hy => h y (by simp [hy]))
    simp only [bytesL, strL, List.map_cons, List.toList_toArray] at this ⊢
    rw [this]
    have e : ((UInt8.ofNat x.toNat).toNat : Int) = x := by
      rw [UInt8.toNat_ofNat']; omega
    rw [e]
theorem strL_size (l : List Int) : (strL l).size = l.length := by simp [strL, ByteArray.size]
theorem strL_bytesL (s : ByteArray) : strL (bytesL s) = s := bytesL_inj (toBytes (bytesL_isB s))
theorem c_impl_long (s : ByteArray) : TT n_impl_long [eS s] [] (eI (if 65536 < s.size then 2 else 0)) [] := by
  refine r_impl_long s ⟨_, c_impl_when _ 2, ?_, rfl⟩
  simp only [decide_eq_true_eq, gt_iff_lt]
  by_cases h : 65536 < s.size
  · rw [if_pos h, if_pos (by omega)]
  · rw [if_neg h, if_neg (by omega)]

/-- The code of what is read as a frame. -/
def frameE (l : List Int) : Int :=
  if l.length < 10 then 16 else if l.take 4 ≠ [80, 76, 67, 49] then 3 else if numZ 4 (l.drop 4) ≠ (l.length : Int) - 10 then 8
  else if numZ 2 (l.drop (l.length - 2)) ≠ sumL 1 (l.take (l.length - 2)) then 9 else 0
def frameS (s : ByteArray) : ByteArray := if frameE (bytesL s) = 0 then s.extract 8 (s.size - 2) else ⟨#[]⟩
@[reducible] def strI (s : ByteArray) (n : Int) : Ent := .tup [(false, [.str s]), (false, [cI n])]
theorem magicA_bytes : bytesL (⟨#[80, 76, 67, 49]⟩ : ByteArray) = [80, 76, 67, 49] := by decide
theorem magic_eq (s : ByteArray) (h : 4 ≤ s.size) : (ByteArray.toList (s.extract (Int.toNat 0) (Int.toNat 4)) == ByteArray.toList (⟨#[80, 76, 67, 49]⟩ : ByteArray)) = decide ((bytesL s).take 4 = [80, 76, 67, 49]) := by
  rw [toList_beq, decide_eq_decide, bytesL_iff, bytes_extract s (by simpa using h), magicA_bytes]; rfl
theorem c_impl_ReadFrame_long (s : ByteArray) (h : 65536 < s.size) : TT n_impl_ReadFrame [eS s] [] (strI ⟨#[]⟩ 2) [] := by
  have k0 := c_impl_long s
  rw [if_pos h] at k0
  have k1 := c_impl_when (decide ((s.size : Int) < 10)) 16
  refine r_impl_ReadFrame s ⟨_, k0, _, k1, _, c_impl_first _ (by simp), ?_⟩
  exact ifB_t (by simp [firstOf_]) ⟨by simp [firstOf_], rfl⟩
theorem c_impl_ReadFrame (s : ByteArray) (h : s.size ≤ 65536) : TT n_impl_ReadFrame [eS s] [] (strI (frameS s) (frameE (bytesL s))) [] := by
  have hlen := bytesL_size s
  have k0 := c_impl_long s
  rw [if_neg (by omega)] at k0
  have k1 := c_impl_when (decide ((s.size : Int) < 10)) 16
  refine r_impl_ReadFrame s ⟨_, k0, _, k1, _, c_impl_first _ (by simp), ?_⟩
  by_cases h10 : s.size < 10
  · have e : frameE (bytesL s) = 16 := by unfold frameE; rw [if_pos (by omega)]
    rw [if_pos (by simp; omega)]
    refine ifB_t (by simp [firstOf_]) ?_
    unfold frameS
    rw [e]; exact ⟨rfl, rfl⟩
  rw [if_neg (by simp; omega)]
  refine ifN_f rfl ⟨⟨by omega, by omega, by omega⟩, ⟨by omega, by omega, by omega⟩, ?_⟩
  rw [w64 (x := (s.size : Int) - 2) (by omega), w64 (x := (s.size : Int) - 10) (by omega), show ((s.size : Int) - 2).toNat = s.size - 2 by omega, show Int.toNat (s.size : Int) = s.size by omega]
  have z1 : (s.extract 4 8).size = 4 := by rw [ByteArray.size_extract]; omega
  have z2 : (s.extract (s.size - 2) s.size).size = 2 := by rw [ByteArray.size_extract]; omega
  have t1 := c_impl_take (s.extract 4 8) (by rw [z1]; simp [isZ])
  have t2 := c_impl_take (s.extract (s.size - 2) s.size) (by rw [z2]; simp [isZ])
  have u := c_impl_SumOf (s.extract 0 (s.size - 2)) (by rw [ByteArray.size_extract]; omega)
  have n1 : numZ 4 (bytesL (s.extract 4 8)) = numZ 4 ((bytesL s).drop 4) := by
    unfold numZ
    rw [bytes_extract s (by omega), List.drop_take, List.take_take]; rfl
  have n2 : numZ 2 (bytesL (s.extract (s.size - 2) s.size)) = numZ 2 ((bytesL s).drop (s.size - 2)) := by
    unfold numZ
    rw [bytes_extract s (by omega), List.drop_take, List.take_take, show min 2 (s.size - (s.size - 2)) = 2 by omega]
  rw [z1, n1] at t1
  rw [z2, n2] at t2
  rw [bytes_extract s (by omega), List.drop_zero] at u
  rw [magic_eq s (by omega)]
  refine ⟨⟨by omega, by omega, by omega⟩, ⟨by omega, by omega, by omega⟩, _, c_impl_when _ _, _, t1, _, c_impl_when _ _, _, t2, _, u, _, c_impl_when _ _, _, c_impl_first _ (by simp), ?_⟩
  unfold frameS frameE
  rw [if_neg (show ¬ (bytesL s).length < 10 by omega), hlen]
  by_cases c1 : (bytesL s).take 4 = [80, 76, 67, 49]
  · rw [if_neg (show ¬ (!decide ((bytesL s).take 4 = [80, 76, 67, 49])) = true by simp [c1]), if_neg (show ¬ (bytesL s).take 4 ≠ [80, 76, 67, 49] by simp [c1])]
    by_cases c2 : numZ 4 ((bytesL s).drop 4) = (s.size : Int) - 10
    · rw [if_neg (show ¬ numZ 4 ((bytesL s).drop 4) ≠ (s.size : Int) - 10 by simp [c2])]
      rw [if_neg (show ¬ (numZ 4 ((bytesL s).drop 4) != (s.size : Int) - 10) = true by simp [c2])]
      by_cases c3 : numZ 2 ((bytesL s).drop (s.size - 2)) = sumL 1 ((bytesL s).take (s.size - 2))
      · rw [if_neg (show ¬ (numZ 2 ((bytesL s).drop (s.size - 2)) != sumL 1 ((bytesL s).take (s.size - 2))) = true by simp [c3]), if_neg (show ¬ numZ 2 ((bytesL s).drop (s.size - 2)) ≠ sumL 1 ((bytesL s).take (s.size - 2)) by simp [c3])]
        exact ifN_f rfl ⟨⟨by omega, by omega, by omega⟩, rfl, rfl⟩
      · rw [if_pos (show (numZ 2 ((bytesL s).drop (s.size - 2)) != sumL 1 ((bytesL s).take (s.size - 2))) = true by simp [c3]), if_pos (show numZ 2 ((bytesL s).drop (s.size - 2)) ≠ sumL 1 ((bytesL s).take (s.size - 2)) from c3)]
        exact ifB_t rfl ⟨rfl, rfl⟩
    · rw [if_pos (show numZ 4 ((bytesL s).drop 4) ≠ (s.size : Int) - 10 from c2), if_pos (show (numZ 4 ((bytesL s).drop 4) != (s.size : Int) - 10) = true by simp [c2])]
      exact ifB_t rfl ⟨rfl, rfl⟩
  · rw [if_pos (show (!decide ((bytesL s).take 4 = [80, 76, 67, 49])) = true by simp [c1]), if_pos (show (bytesL s).take 4 ≠ [80, 76, 67, 49] from c1)]
    exact ifB_t rfl ⟨rfl, rfl⟩
end Go.Ry

set_option linter.unusedVariables false
set_option linter.unusedSimpArgs false
namespace Go.Ry
open Go.Proofs

theorem c_impl_hasOperand (op : Int) : TT n_impl_hasOperand [eI op] [] (eB (rangeOf op).2.2) [] := r_impl_hasOperand op ⟨_, _, _, c_impl_rangeOf op, rfl, rfl⟩
def step1 (rec : List Int → List Ins → Int × List Ins) (b a : Int) (l : List Int) (out : List Ins) : Int × List Ins :=
  if instrOK b a = true then if 40 ≤ out.length then (6, []) else rec l (out ++ [(b, (a, ()))]) else (4, [])
/-- What is read from the bytes l on, out being read already; n bounds the rounds. -/
def parse : Nat → List Int → List Ins → Int × List Ins
  | 0, _, out => (0, out)
  | _ + 1, [], out => (0, out)
  | n + 1, b :: l, out =>
    if isOp b = true then
      if (rangeOf b).2.2 = true then
        if l.length < 4 then (16, []) else step1 (parse n) b (numZ 4 l) (l.drop 4) out
      else step1 (parse n) b 0 l out
    else (11, [])
theorem parse_fuel : ∀ (n m : Nat) (l : List Int) (out : List Ins), l.length ≤ n → l.length ≤ m → parse n l out = parse m l out
  | 0, m, l, out, h, _ => by
    have : l = [] := List.eq_nil_of_length_eq_zero (by omega)
    subst this
    cases m <;> rfl
  | n + 1, 0, l, out, _, h => by
    have : l = [] := List.eq_nil_of_length_eq_zero (by omega)
    subst this
    rfl
  | n + 1, m + 1, [], out, _, _ => rfl
  | n + 1, m + 1, b :: l, out, h, k => by
    simp only [List.length_cons] at h k
    have e1 : ∀ o, parse n (l.drop 4) o = parse m (l.drop 4) o := fun o => parse_fuel n m _ o (by simp; omega) (by simp; omega)
    have e2 : ∀ o, parse n l o = parse m l o := fun o => parse_fuel n m _ o (by omega) (by omega)
    simp only [parse, step1, e1, e2]
theorem parse_nil (n : Nat) (out : List Ins) : parse n [] out = (0, out) := by cases n <;> rfl
theorem parse_len : ∀ (n : Nat) (l : List Int) (out : List Ins), out.length ≤ 40 → (parse n l out).2.length ≤ 40
  | 0, _, out, h => h
  | _ + 1, [], out, h => h
  | n + 1, b :: l, out, h => by
    have st : ∀ (a : Int) (q : List Int), (step1 (parse n) b a q out).2.length ≤ 40 := by
      intro a q
      unfold step1
      split
      · split
        · exact Nat.zero_le _
        · exact parse_len n q _ (by simp; omega)
      · exact Nat.zero_le _
    simp only [parse]
    split
    · split
      · split
        · exact Nat.zero_le _
        · exact st _ _
      · exact st _ _
    · exact Nat.zero_le _
@[reducible] def retC (p : Int × List Ins) : Ent := .tup [(false, [.row 0]), (false, [cI p.1])]
@[reducible] def retO (p : Int × List Ins) : List Ob := [.row t_impl_Instr tIns p.2]
def readB (l : List Int) : Int × List Ins := parse l.length l []
theorem readB_len (l : List Int) : (readB l).2.length ≤ 40 := parse_len _ _ _ (Nat.zero_le _)

theorem c_impl_readCode (s : ByteArray) (hs : s.size ≤ 65536) : TT n_impl_readCode [eS s] [] (retC (readB (bytesL s))) (retO (readB (bytesL s))) := by
  refine r_impl_readCode s ⟨fun m t r => m = t.size ∧ t.size ≤ s.size ∧ r.length ≤ 40 ∧ readB (bytesL s) = parse t.size (bytesL t) r, ⟨_, rfl, by omega, by simp, by rw [readB, bytesL_size]⟩, ?_⟩
  rintro m t r ⟨rfl, h5, h7, h8⟩
  have hb := bytesL_size t
  refine ifP (fun hgt => ?_) (fun hge => ?_)
  · obtain ⟨k, hk⟩ : ∃ k, t.size = k + 1 := ⟨t.size - 1, by omega⟩
    have b0 := bytes_at (s := t) (i := 0)
    have hc : bytesL t = (bytesL t).getD 0 0 :: (bytesL t).drop 1 := by
      have := drop_getD (l := bytesL t) (i := 0) (by omega) 0
      simpa using this
    rw [hk, hc] at h8
    simp only [parse] at h8
    refine ⟨⟨by omega, by omega⟩, ⟨by omega, by omega, by omega⟩, ?_⟩
    rw [show Int.toNat 0 = 0 by rfl, w64 (x := (bytesL t).getD 0 0) (by omega), show Int.toNat 1 = 1 by rfl, show (t.size : Int).toNat = t.size by omega]
    have ht1 : (t.extract 1 t.size).size = t.size - 1 := by rw [ByteArray.size_extract]; omega
    have ht1' : bytesL (t.extract 1 t.size) = (bytesL t).drop 1 := by
      rw [bytes_extract t (Nat.le_refl _), List.take_of_length_le (by omega)]
    refine ⟨_, c_impl_isOp _, ifB_cases (fun hn => ?_) (fun hn => ?_)⟩
    · rw [if_neg (by rw [notT hn]; simp)] at h8
      rw [h8]; exact ⟨rfl, rfl⟩
    rw [if_pos (notF hn)] at h8
    refine ⟨fun u q op a => u.size < t.size ∧ r = q ∧ readB (bytesL s) = step1 (parse k) op a (bytesL u) r, ⟨_, c_impl_hasOperand _, ifB_cases (fun hh => ?_) (fun hh => ?_)⟩, ?_⟩
    · rw [if_pos hh] at h8
      rw [ht1]
      refine ifP (fun hl => ?_) (fun hl => ?_)
      · rw [if_pos (by simp; omega)] at h8
        rw [h8]; exact ⟨rfl, rfl⟩
      · rw [if_neg (by simp; omega)] at h8
        rw [show Int.toNat 4 = 4 by rfl, show (((t.size - 1 : Nat) : Int)).toNat = t.size - 1 by omega]
        have ht2 : ((t.extract 1 t.size).extract 0 4).size = 4 := by rw [ByteArray.size_extract, ht1]; omega
        have e4 : numZ 4 (bytesL ((t.extract 1 t.size).extract 0 4)) = numZ 4 ((bytesL t).drop 1) := by
          rw [bytes_extract _ (by omega), ht1', numZ, numZ, List.drop_zero, List.take_take]; rfl
        have k4 := c_impl_take _ (by rw [ht2]; simp [isZ])
        rw [ht2, e4] at k4
        refine ⟨⟨by omega, by omega, by omega⟩, ⟨by omega, by omega, by omega⟩, _, k4, ?_, rfl, ?_⟩
        · rw [ByteArray.size_extract, ht1]; omega
        · rw [h8, bytes_extract _ (by omega), ht1', List.take_of_length_le (by simp; omega)]
    · rw [if_neg (by rw [hh]; simp)] at h8
      exact ⟨by omega, rfl, by rw [h8, ht1']⟩
    · rintro u _ op a ⟨h9, rfl, h12⟩
      have hub := bytesL_size u
      unfold step1 at h12
      refine ⟨_, c_impl_InstrOK _ _, _, c_impl_when _ _, _, c_impl_when _ _, _, c_impl_first _ (by simp), ?_⟩
      cases hi : instrOK op a
      · rw [if_neg (by rw [hi]; simp)] at h12
        refine ifN (fun _ => ?_) (fun he => by simp [firstOf_] at he)
        rw [h12]
        exact ⟨by simp [firstOf_], rfl⟩
      · rw [if_pos hi] at h12
        by_cases hl : r.length = 40
        · rw [if_pos (by omega)] at h12
          refine ifN (fun _ => ?_) (fun he => by simp [firstOf_, hl] at he)
          rw [h12]
          exact ⟨by simp [firstOf_, hl], rfl⟩
        · rw [if_neg (by omega)] at h12
          have hl' : ((r.length : Int) == 40) = false := by simp; omega
          refine ifN (fun he => by simp [firstOf_, hl'] at he) (fun _ => ⟨by simp; omega, _, ?_, rfl, by omega, by simp; omega, ?_⟩)
          · omega
          · rw [h12]; exact parse_fuel _ _ _ _ (by omega) (by omega)
  · have : bytesL t = [] := List.eq_nil_of_length_eq_zero (by omega)
    rw [this, parse_nil] at h8
    rw [h8]; exact ⟨rfl, rfl⟩
end Go.Ry
