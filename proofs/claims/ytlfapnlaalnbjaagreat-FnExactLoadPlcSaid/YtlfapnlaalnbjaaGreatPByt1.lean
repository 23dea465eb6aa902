/- Bytes: numbers, sums. No condition. -/
import Derived.Test.YtlfapnlaalnbjaaGreatPNum1
import Derived.Test.YtlfapnlaalnbjaaGreatPStr
import Derived.Laws.BitsLemmas
import Derived.Laws.Strings
set_option linter.unusedVariables false
set_option linter.unusedSimpArgs false
namespace Go.Ry
open Go.Proofs

def isB (l : List Int) : Prop := ∀ x ∈ l, 0 ≤ x ∧ x ≤ 255
theorem notF {b : Bool} (h : (!b) = false) : b = true := by simpa using h
theorem notT {b : Bool} (h : (!b) = true) : b = false := by simpa using h
theorem bytes_at {s : ByteArray} {i : Nat} : 0 ≤ (bytesL s).getD i 0 ∧ (bytesL s).getD i 0 < 256 := by
  simp only [bytesL, List.getD_eq_getElem?_getD, List.getElem?_map]
  cases h : s.data.toList[i]? with
  | none => simp
  | some b =>
    have := b.toNat_lt
    simp; omega
theorem bytes_extract (s : ByteArray) {a b : Nat} (h : b ≤ s.size) : bytesL (s.extract a b) = ((bytesL s).take b).drop a := by
  have e : (s.extract a b).data = s.data.extract a b := by
    simp [ByteArray.data_extract]
  simp only [bytesL, e, Array.toList_extract, List.extract_eq_take_drop, List.map_take, List.map_drop]
  rw [List.drop_take]
theorem or_byte {x y : Int} (hx : 0 ≤ x ∧ x < 36028797018963968) (hy : 0 ≤ y ∧ y < 256) : bits .or .i64 (x * 256) y = x * 256 + y := by
  refine bits_join .i64 63 (by decide) (fun n h0 h1 => ?_) 8 (x * 256) y (by omega) (by omega) ?_ hy.1 (by omega) ?_
  · rw [IntKind.wrap_i64]; have h2 : n < 9223372036854775808 := by simpa using h1
    omega
  · show x * 256 < 9223372036854775808; omega
  · show y < 9223372036854775808; omega
def leN : List Int → Int
  | [] => 0
  | x :: l => x + 256 * leN l
def half (z : Int) : Int := if z = 1 then 128 else if z = 2 then 32768 else 2147483648
def sgn (z v : Int) : Int := if half z ≤ v then v - 2 * half z else v
def isZ (z : Int) : Prop := z = 1 ∨ z = 2 ∨ z = 4
theorem half_range {z : Int} : 128 ≤ half z ∧ half z ≤ 2147483648 := by unfold half; split; omega; split <;> omega
theorem bound_eq {z : Int} (hz : isZ z) : wI ((1 : Int) * 2 ^ min (Int.toNat (wI ((wI ((8 : Int) * z)) - (1 : Int)))) (IntKind.bits .i64)) = half z := by
  rcases hz with rfl | rfl | rfl <;> decide
theorem leN_range {l : List Int} (h : isB l) : 0 ≤ leN l ∧ leN l < 256 ^ l.length := by
  induction l with
  | nil => simp [leN]
  | cons x l ih =>
    have hx := h x (by simp)
    have := ih (fun y hy => h y (by simp [hy]))
    simp only [leN, List.length_cons, Int.pow_succ]
    omega
theorem bytesL_isB (s : ByteArray) : isB (bytesL s) := by
  intro x hx
  simp only [bytesL, List.mem_map] at hx
  obtain ⟨b, _, rfl⟩ := hx
  have := b.toNat_lt
  omega
theorem leN_small {l : List Int} (h : isB l) (h4 : l.length ≤ 4) : 0 ≤ leN l ∧ leN l < 4294967296 := by
  have := leN_range h
  have hc : l.length = 0 ∨ l.length = 1 ∨ l.length = 2 ∨ l.length = 3 ∨ l.length = 4 := by omega
  rcases hc with e | e | e | e | e <;> rw [e] at this <;> simp only [Int.reducePow] at this <;> omega
/-- The number that z bytes hold. -/
def numZ (z : Nat) (l : List Int) : Int := sgn z (leN (l.take z))
theorem numZ_range {z : Nat} (hz : isZ z) {l : List Int} (h : isB l) : -2147483648 ≤ numZ z l ∧ numZ z l ≤ 4294967295 := by
  have := leN_small (l := l.take z) (fun x hx => h x (List.mem_of_mem_take hx)) (by rw [List.length_take]; rcases hz with h | h | h <;> omega)
  have hh := half_range (z := z)
  unfold numZ sgn
  split <;> omega
theorem numZ_one {l : List Int} (h : isB l) : -128 ≤ numZ 1 l ∧ numZ 1 l ≤ 127 := by
  match l with
  | [] => simp [numZ, leN, sgn, half]
  | a :: l =>
    have := h a (by simp)
    have e : leN ((a :: l).take 1) = a := by simp [leN]
    unfold numZ sgn half
    rw [e]
    simp
    split <;> omega
theorem c_impl_take (s : ByteArray) (h : isZ s.size) : TT n_impl_take [eS s] [] (eI (numZ s.size (bytesL s))) [] := by
  have hsz : (1 : Int) ≤ s.size ∧ (s.size : Int) ≤ 4 := by rcases h with h | h | h <;> omega
  have e8 : (2 : Int) ^ min (Int.toNat (8 : Int)) (IntKind.bits .i64) = 256 := by decide
  have hlen := bytesL_size s
  have hn : numZ s.size (bytesL s) = sgn s.size (leN (bytesL s)) := by unfold numZ; rw [List.take_of_length_le (by omega)]
  rw [hn]
  have hr : ∀ i : Nat, 0 ≤ leN ((bytesL s).drop i) ∧ leN ((bytesL s).drop i) < 4294967296 := fun i =>
    leN_small (fun x hx => bytesL_isB s x (List.mem_of_mem_drop hx)) (by simp; omega)
  have hst : ∀ i : Nat, i < s.size → leN ((bytesL s).drop i) = (bytesL s).getD i 0 + 256 * leN ((bytesL s).drop (i + 1)) := by
    intro i hi
    rw [drop_getD (by omega) 0, leN]
  refine r_impl_take s ⟨fun v => v = leN (bytesL s),
    ⟨fun m v i => -1 ≤ i ∧ i < s.size ∧ m = (i + 1).toNat ∧ v = leN ((bytesL s).drop m), ⟨s.size, rfl, ?_, ?_, ?_, ?_⟩, ?_⟩, ?_⟩
  · rw [w64 (by omega)]; omega
  · rw [w64 (by omega)]; omega
  · rw [w64 (by omega)]; omega
  · rw [List.drop_eq_nil_of_le (by omega)]; rfl
  · rintro m v i ⟨h0, h1, rfl, rfl⟩
    refine ifP (fun hge => ?_) (fun hlt => ⟨rfl, ?_⟩)
    · have a1 := hr (i + 1).toNat
      have a2 := bytes_at (s := s) (i := i.toNat)
      have a3 := hst i.toNat (by omega)
      rw [e8, w64 (x := i - 1) (by omega), w64 (x := leN _ * 256) (by omega), w64 (x := (bytesL s).getD i.toNat 0) (by omega), or_byte (by omega) a2]
      refine ⟨by decide, ⟨by omega, by omega⟩, i.toNat, by omega, rfl, by omega, by omega, by omega, ?_⟩
      rw [a3, show i.toNat + 1 = (i + 1).toNat by omega]; omega
    · rw [show (i + 1).toNat = 0 by omega]; rfl
  · rintro v rfl
    have a1 := hr 0
    rw [List.drop_zero] at a1
    have hh := half_range (z := s.size)
    rw [bound_eq h]
    refine ⟨by rcases h with h | h | h <;> rw [h] <;> decide, ifP (fun hge => ⟨?_, rfl⟩) (fun hlt => ⟨?_, rfl⟩)⟩
    · rw [w64 (x := 2 * half s.size) (by omega), w64 (by omega), sgn, if_pos (by omega)]
    · rw [sgn, if_neg (by omega)]
theorem top_half {l : List Int} {z : Int} (hz : isZ z) (hl : (l.length : Int) = z) (hb : isB l) : (128 ≤ l.getD (z.toNat - 1) 0) ↔ half z ≤ leN l := by
  rcases hz with rfl | rfl | rfl
  · match l, hl with
    | [a], _ => simp [leN, half]
  · match l, hl with
    | [a, b], _ =>
      have h1 := hb a (by simp); have h2 := hb b (by simp)
      simp [leN, half]; omega
  · match l, hl with
    | [a, b, c, d], _ =>
      have h1 := hb a (by simp); have h2 := hb b (by simp); have h3 := hb c (by simp); have h4 := hb d (by simp)
      simp [leN, half]; omega
theorem c_spec_l01Take (s : ByteArray) (n z : Nat) (hz : isZ z) (h : n + z ≤ s.size) (hs : s.size ≤ 65536) : TT n_spec_l01Take [eS s, eI n, eI z] [] (eI (numZ z ((bytesL s).drop n))) [] := by
  have hz' : 1 ≤ z ∧ z ≤ 4 := by rcases hz with h | h | h <;> omega
  have hlen := bytesL_size s
  unfold numZ
  generalize hq : ((bytesL s).drop n).take z = q
  have hql : q.length = z := by rw [← hq]; simp; omega
  have hqb : isB q := fun x hx => bytesL_isB s x (by rw [← hq] at hx; exact List.mem_of_mem_drop (List.mem_of_mem_take hx))
  have hget : ∀ i : Nat, i < z → (bytesL s).getD (n + i) 0 = q.getD i 0 := by
    intro i hi
    rw [← hq, List.getD_eq_getElem?_getD, List.getD_eq_getElem?_getD, List.getElem?_take_of_lt hi, List.getElem?_drop]
  have hst : ∀ i : Nat, i < z → leN (q.drop i) = q.getD i 0 + 256 * leN (q.drop (i + 1)) := by
    intro i hi
    rw [drop_getD (by omega) 0, leN]
  have hr : ∀ i : Nat, 0 ≤ leN (q.drop i) ∧ leN (q.drop i) < 4294967296 := fun i => leN_small (fun x hx => hqb x (List.mem_of_mem_drop hx)) (by simp; omega)
  refine r_spec_l01Take s n z ⟨fun v => v = leN q,
    ⟨fun m v i => -1 ≤ i ∧ i < z ∧ m = (i + 1).toNat ∧ v = leN (q.drop m), ⟨z, rfl, ?_, ?_, ?_, ?_⟩, ?_⟩, ?_⟩
  · rw [w64 (by omega)]; omega
  · rw [w64 (by omega)]; omega
  · rw [w64 (by omega)]; omega
  · rw [List.drop_eq_nil_of_le (by omega)]; rfl
  · rintro m v i ⟨h0, h1, rfl, rfl⟩
    refine ifP (fun hge => ?_) (fun hlt => ⟨rfl, ?_⟩)
    · have a1 := hr (i + 1).toNat
      have a2 := bytes_at (s := s) (i := n + i.toNat)
      have a3 := hst i.toNat (by omega)
      have a4 := hget i.toNat (by omega)
      rw [w64 (x := (n : Int) + i) (by omega), w64 (x := i - 1) (by omega), show ((n : Int) + i).toNat = n + i.toNat by omega, w64 (x := 256 * leN _) (by omega), w64 (x := (bytesL s).getD (n + i.toNat) 0) (by omega), w64 (by omega)]
      refine ⟨⟨by omega, by omega⟩, i.toNat, by omega, rfl, by omega, by omega, by omega, ?_⟩
      rw [a3, a4, show i.toNat + 1 = (i + 1).toNat by omega]; omega
    · rw [show (i + 1).toNat = 0 by omega]; rfl
  · rintro v rfl
    have a1 := hr 0
    rw [List.drop_zero] at a1
    have hh := half_range (z := z)
    have th := top_half hz (by omega) hqb
    have a4 := hget (z - 1) (by omega)
    rw [show ((z : Int)).toNat - 1 = z - 1 by omega] at th
    rw [w64 (x := (n : Int) + z) (by omega), w64 (x := (n : Int) + z - 1) (by omega), show ((n : Int) + z - 1).toNat = n + (z - 1) by omega, a4]
    have e2 : wI ((1 : Int) * 2 ^ min (Int.toNat (IntKind.wrap .u64 (wI ((8 : Int) * z)))) (IntKind.bits .i64)) = 2 * half z := by rcases hz with h | h | h <;> rw [h] <;> decide
    refine ⟨⟨by omega, by omega⟩, ifP (fun hge => ⟨by rcases hz with h | h | h <;> rw [h] <;> decide, ?_, rfl⟩) (fun hlt => ⟨?_, rfl⟩)⟩
    · rw [e2, w64 (by omega), sgn, if_pos (th.1 hge)]
    · rw [sgn, if_neg (fun h => hlt (th.2 h))]
def sumL : Int → List Int → Int
  | a, [] => a
  | a, b :: l => sumL ((31 * a + b) % 32749) l
theorem drop_at (s : ByteArray) {i : Nat} (hi : i < s.size) : (bytesL s).drop i = (bytesL s).getD i 0 :: (bytesL s).drop (i + 1) := drop_getD (by rw [bytesL_size]; exact hi) 0
theorem sum_step {s : ByteArray} {a i : Int} (h0 : 0 ≤ i) (hi : i < s.size) (ha : 0 ≤ a ∧ a < 32749) :
    Int.tmod (wI ((wI (31 * a)) + (wI ((bytesL s).getD (Int.toNat i) 0)))) 32749 = (31 * a + (bytesL s).getD i.toNat 0) % 32749 := by
  have := bytes_at (s := s) (i := i.toNat)
  rw [w64 (x := 31 * a) (by omega), w64 (x := (bytesL s).getD i.toNat 0) (by omega), w64 (by omega), Int.tmod_eq_emod_of_nonneg (by omega)]
theorem c_spec_l01Sum (s : ByteArray) (hs : s.size ≤ 65536) : TT n_spec_l01Sum [eS s] [] (eI (sumL 1 (bytesL s))) [] := by
  refine r_spec_l01Sum s ⟨fun m a i => (0 ≤ a ∧ a < 32749) ∧ 0 ≤ i ∧ i ≤ s.size ∧ m = (s.size - i).toNat ∧ sumL a ((bytesL s).drop i.toNat) = sumL 1 (bytesL s), ⟨_, rfl, by omega, by omega, by omega, rfl, rfl⟩, ?_⟩
  rintro m a i ⟨ha, h0, h1, rfl, h2⟩
  refine ifP (fun hlt => ⟨⟨h0, by omega⟩, by omega, ?_⟩) (fun hge => ?_)
  · have hb := bytes_at (s := s) (i := i.toNat)
    rw [sum_step h0 hlt ha, w64 (x := i + 1) (by omega)]
    rw [drop_at s (by omega)] at h2
    exact ⟨_, by omega, rfl, by omega, by omega, by omega, rfl, by rw [toNat_succ h0]; exact h2⟩
  · rw [List.drop_eq_nil_of_le (by rw [bytesL_size]; omega)] at h2
    rw [← h2]; exact ⟨rfl, rfl⟩
theorem c_impl_SumOf (s : ByteArray) (hs : s.size ≤ 65536) : TT n_impl_SumOf [eS s] [] (eI (sumL 1 (bytesL s))) [] := by
  refine r_impl_SumOf s (ifP_f (by omega) ⟨fun m a i => (0 ≤ a ∧ a < 32749) ∧ 0 ≤ i ∧ i ≤ s.size ∧ m = (s.size - i).toNat ∧ sumL a ((bytesL s).drop i.toNat) = sumL 1 (bytesL s), ⟨_, rfl, by omega, by omega, by omega, rfl, rfl⟩, ?_⟩)
  rintro m a i ⟨ha, h0, h1, rfl, h2⟩
  refine ifP (fun hlt => ⟨⟨h0, by omega⟩, by omega, ?_⟩) (fun hge => ?_)
  · have hb := bytes_at (s := s) (i := i.toNat)
    rw [sum_step h0 hlt ha, w64 (x := i + 1) (by omega)]
    rw [drop_at s (by omega)] at h2
    exact ⟨_, by omega, rfl, by omega, by omega, by omega, rfl, by rw [toNat_succ h0]; exact h2⟩
  · rw [List.drop_eq_nil_of_le (by rw [bytesL_size]; omega)] at h2
    rw [← h2]; exact ⟨rfl, rfl⟩
end Go.Ry
