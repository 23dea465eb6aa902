/- Texts Byt1, Byt2, Byt3, one behind the other. No condition. -/
import Derived.Test.YthpolfpbioebnaaGreatPNum1
import Derived.Test.YthpolfpbioebnaaGreatPStr
import Derived.Laws.BitsLemmas
import Derived.Laws.Strings
import Derived.Test.YthpolfpbioebnaaGreatPNum2
set_option linter.unusedVariables false
set_option linter.unusedSimpArgs false
namespace Go.Ry
open Go.Proofs

def isB (l : List Int) : Prop := ∀ x ∈ l, 0 ≤ x ∧ x ≤ 255
theorem notF {b : Bool} (h : (!b) = false) : b = true := by simpa using h
theorem notT {b : Bool} (h : (!b) = true) : b = false := by simpa using h
theorem bytes_at {s : ByteArray} {i : Nat} : 0 ≤ (bytesL s).getD i 0 ∧ (bytesL s).getD i 0 < 256 := by
  simp only [bytesL, List.getD_eq_getElem?_getD, List.getElem?_map]
  cases h : s.data.toList[i]? with
  | none => simp
  | some b =>
    have := b.toNat_lt
    simp; omega
theorem bytes_extract (s : ByteArray) {a b : Nat} (h : b ≤ s.size) : bytesL (s.extract a b) = ((bytesL s).take b).drop a := by
  have e : (s.extract a b).data = s.data.extract a b := by
    simp [ByteArray.data_extract]
  simp only [bytesL, e, Array.toList_extract, List.extract_eq_take_drop, List.map_take, List.map_drop]
  rw [List.drop_take]
theorem or_byte {x y : Int} (hx : 0 ≤ x ∧ x < 36028797018963968) (hy : 0 ≤ y ∧ y < 256) : bits .or .i64 (x * 256) y = x * 256 + y := by
  refine bits_join .i64 63 (by decide) (fun n h0 h1 => ?_) 8 (x * 256) y (by omega) (by omega) ?_ hy.1 (by omega) ?_
  · rw [IntKind.wrap_i64]; have h2 : n < 9223372036854775808 := by simpa using h1
    omega
  · show x * 256 < 9223372036854775808; omega
  · show y < 9223372036854775808; omega
def leN : List Int → Int
  | [] => 0
  | x :: l => x + 256 * leN l
def half (z : Int) : Int := if z = 1 then 128 else if z = 2 then 32768 else 2147483648
def sgn (z v : Int) : Int := if half z ≤ v then v - 2 * half z else v
def isZ (z : Int) : Prop := z = 1 ∨ z = 2 ∨ z = 4
theorem half_range {z : Int} : 128 ≤ half z ∧ half z ≤ 2147483648 := by unfold half; split; omega; split <;> omega
theorem bound_eq {z : Int} (hz : isZ z) : wI ((1 : Int) * 2 ^ min (Int.toNat (wI ((wI ((8 : Int) * z)) - (1 : Int)))) (IntKind.bits .i64)) = half z := by
  rcases hz with rfl | rfl | rfl <;> decide
theorem leN_range {l : List Int} (h : isB l) : 0 ≤ leN l ∧ leN l < 256 ^ l.length := by
  induction l with
  | nil => simp [leN]
  | cons x l ih =>
    have hx := h x (by simp)
    have := ih (fun y hy => h y (by simp [hy]))
    simp only [leN, List.length_cons, Int.pow_succ]
    omega
theorem bytesL_isB (s : ByteArray) : isB (bytesL s) := by
  intro x hx
  simp only [bytesL, List.mem_map] at hx
  obtain ⟨b, _, rfl⟩ := hx
  have := b.toNat_lt
  omega
theorem leN_small {l : List Int} (h : isB l) (h4 : l.length ≤ 4) : 0 ≤ leN l ∧ leN l < 4294967296 := by
  have := leN_range h
  have hc : l.length = 0 ∨ l.length = 1 ∨ l.length = 2 ∨ l.length = 3 ∨ l.length = 4 := by omega
  rcases hc with e | e | e | e | e <;> rw [e] at this <;> simp only [Int.reducePow] at this <;> omega
/-- The number that z bytes hold. -/
def numZ (z : Nat) (l : List Int) : Int := sgn z (leN (l.take z))
theorem numZ_range {z : Nat} (hz : isZ z) {l : List Int} (h : isB l) : -2147483648 ≤ numZ z l ∧ numZ z l ≤ 4294967295 := by
  have := leN_small (l := l.take z) (fun x hx => h x (List.mem_of_mem_take hx)) (by rw [List.length_take]; rcases hz with h | h | h <;> omega)
  have hh := half_range (z := z)
  unfold numZ sgn
  split <;> omega
theorem numZ_one {l : List Int} (h : isB l) : -128 ≤ numZ 1 l ∧ numZ 1 l ≤ 127 := by
  match l with
  | [] => simp [numZ, leN, sgn, half]
  | a :: l =>
    have := h a (by simp)
    have e : leN ((a :: l).take 1) = a := by simp [leN]
    unfold numZ sgn half
    rw [e]
    simp
    split <;> omega
theorem top_half {l : List Int} {z : Int} (hz : isZ z) (hl : (l.length : Int) = z) (hb : isB l) : (128 ≤ l.getD (z.toNat - 1) 0) ↔ half z ≤ leN l := by
  rcases hz with rfl | rfl | rfl
  · match l, hl with
    | [a], _ => simp [leN, half]
  · match l, hl with
    | [a, b], _ =>
      have h1 := hb a (by simp); have h2 := hb b (by simp)
      simp [leN, half]; omega
  · match l, hl with
    | [a, b, c, d], _ =>
      have h1 := hb a (by simp); have h2 := hb b (by simp); have h3 := hb c (by simp); have h4 := hb d (by simp)
      simp [leN, half]; omega
def sumL : Int → List Int → Int
  | a, [] => a
  | a, b :: l => sumL ((31 * a + b) % 32749) l
theorem drop_at (s : ByteArray) {i : Nat} (hi : i < s.size) : (bytesL s).drop i = (bytesL s).getD i 0 :: (bytesL s).drop (i + 1) := drop_getD (by rw [bytesL_size]; exact hi) 0
theorem sum_step {s : ByteArray} {a i : Int} (h0 : 0 ≤ i) (hi : i < s.size) (ha : 0 ≤ a ∧ a < 32749) :
    Int.tmod (wI ((wI (31 * a)) + (wI ((bytesL s).getD (Int.toNat i) 0)))) 32749 = (31 * a + (bytesL s).getD i.toNat 0) % 32749 := by
  have := bytes_at (s := s) (i := i.toNat)
  rw [w64 (x := 31 * a) (by omega), w64 (x := (bytesL s).getD i.toNat 0) (by omega), w64 (by omega), Int.tmod_eq_emod_of_nonneg (by omega)]
theorem c_spec_l01Sum (s : ByteArray) (hs : s.size ≤ 65536) : TT n_spec_l01Sum [eS s] [] (eI (sumL 1 (bytesL s))) [] := by
  refine r_spec_l01Sum s ⟨fun m a i => (0 ≤ a ∧ a < 32749) ∧ 0 ≤ i ∧ i ≤ s.size ∧ m = (s.size - i).toNat ∧ sumL a ((bytesL s).drop i.toNat) = sumL 1 (bytesL s), ⟨_, rfl, by omega, by omega, by omega, rfl, rfl⟩, ?_⟩
  rintro m a i ⟨ha, h0, h1, rfl, h2⟩
  refine ifP (fun hlt => ⟨⟨h0, by omega⟩, by omega, ?_⟩) (fun hge => ?_)
  · have hb := bytes_at (s := s) (i := i.toNat)
    rw [sum_step h0 hlt ha, w64 (x := i + 1) (by omega)]
    rw [drop_at s (by omega)] at h2
    exact ⟨_, by omega, rfl, by omega, by omega, by omega, rfl, by rw [toNat_succ h0]; exact h2⟩
  · rw [List.drop_eq_nil_of_le (by rw [bytesL_size]; omega)] at h2
    rw [← h2]; exact ⟨rfl, rfl⟩
end Go.Ry

set_option linter.unusedVariables false
set_option linter.unusedSimpArgs false
namespace Go.Ry
open Go.Proofs

theorem toBytes {l : List Int} (h : isB l) : bytesL (strL l) = l := by
  induction l with
  | nil => rfl
  | cons x l ih =>
    have hx := h x (by simp)
    have := ih (fun y hy => h y (by simp [hy]))
    simp only [bytesL, strL, List.map_cons, List.toList_toArray] at this ⊢
    rw [this]
    have e : ((UInt8.ofNat x.toNat).toNat : Int) = x := by
      rw [UInt8.toNat_ofNat']; omega
    rw [e]
theorem strL_size (l : List Int) : (strL l).size = l.length := by simp [strL, ByteArray.size]
theorem strL_bytesL (s : ByteArray) : strL (bytesL s) = s := bytesL_inj (toBytes (bytesL_isB s))
/-- The code of what is read as a frame. -/
def frameE (l : List Int) : Int :=
  if l.length < 10 then 16 else if l.take 4 ≠ [80, 76, 67, 49] then 3 else if numZ 4 (l.drop 4) ≠ (l.length : Int) - 10 then 8
  else if numZ 2 (l.drop (l.length - 2)) ≠ sumL 1 (l.take (l.length - 2)) then 9 else 0
def frameS (s : ByteArray) : ByteArray := if frameE (bytesL s) = 0 then s.extract 8 (s.size - 2) else ⟨#[]⟩
@[reducible] def strI (s : ByteArray) (n : Int) : Ent := .tup [(false, [.str s]), (false, [cI n])]
theorem magicA_bytes : bytesL (⟨#[80, 76, 67, 49]⟩ : ByteArray) = [80, 76, 67, 49] := by decide
theorem magic_eq (s : ByteArray) (h : 4 ≤ s.size) : (ByteArray.toList (s.extract (Int.toNat 0) (Int.toNat 4)) == ByteArray.toList (⟨#[80, 76, 67, 49]⟩ : ByteArray)) = decide ((bytesL s).take 4 = [80, 76, 67, 49]) := by
  rw [toList_beq, decide_eq_decide, bytesL_iff, bytes_extract s (by simpa using h), magicA_bytes]; rfl
end Go.Ry

set_option linter.unusedVariables false
set_option linter.unusedSimpArgs false
namespace Go.Ry
open Go.Proofs

def step1 (rec : List Int → List Ins → Int × List Ins) (b a : Int) (l : List Int) (out : List Ins) : Int × List Ins :=
  if instrOK b a = true then if 40 ≤ out.length then (6, []) else rec l (out ++ [(b, (a, ()))]) else (4, [])
/-- What is read from the bytes l on, out being read already; n bounds the rounds. -/
def parse : Nat → List Int → List Ins → Int × List Ins
  | 0, _, out => (0, out)
  | _ + 1, [], out => (0, out)
  | n + 1, b :: l, out =>
    if isOp b = true then
      if (rangeOf b).2.2 = true then
        if l.length < 4 then (16, []) else step1 (parse n) b (numZ 4 l) (l.drop 4) out
      else step1 (parse n) b 0 l out
    else (11, [])
theorem parse_fuel : ∀ (n m : Nat) (l : List Int) (out : List Ins), l.length ≤ n → l.length ≤ m → parse n l out = parse m l out
  | 0, m, l, out, h, _ => by
    have : l = [] := List.eq_nil_of_length_eq_zero (by omega)
    subst this
    cases m <;> rfl
  | n + 1, 0, l, out, _, h => by
    have : l = [] := List.eq_nil_of_length_eq_zero (by omega)
    subst this
    rfl
  | n + 1, m + 1, [], out, _, _ => rfl
  | n + 1, m + 1, b :: l, out, h, k => by
    simp only [List.length_cons] at h k
    have e1 : ∀ o, parse n (l.drop 4) o = parse m (l.drop 4) o := fun o => parse_fuel n m _ o (by simp; omega) (by simp; omega)
    have e2 : ∀ o, parse n l o = parse m l o := fun o => parse_fuel n m _ o (by omega) (by omega)
    simp only [parse, step1, e1, e2]
theorem parse_nil (n : Nat) (out : List Ins) : parse n [] out = (0, out) := by cases n <;> rfl
theorem parse_len : ∀ (n : Nat) (l : List Int) (out : List Ins), out.length ≤ 40 → (parse n l out).2.length ≤ 40
  | 0, _, out, h => h
  | _ + 1, [], out, h => h
  | n + 1, b :: l, out, h => by
    have st : ∀ (a : Int) (q : List Int), (step1 (parse n) b a q out).2.length ≤ 40 := by
      intro a q
      unfold step1
      split
      · split
        · exact Nat.zero_le _
        · exact parse_len n q _ (by simp; omega)
      · exact Nat.zero_le _
    simp only [parse]
    split
    · split
      · split
        · exact Nat.zero_le _
        · exact st _ _
      · exact st _ _
    · exact Nat.zero_le _
@[reducible] def retC (p : Int × List Ins) : Ent := .tup [(false, [.row 0]), (false, [cI p.1])]
@[reducible] def retO (p : Int × List Ins) : List Ob := [.row t_impl_Instr tIns p.2]
def readB (l : List Int) : Int × List Ins := parse l.length l []
theorem readB_len (l : List Int) : (readB l).2.length ≤ 40 := parse_len _ _ _ (Nat.zero_le _)

end Go.Ry
