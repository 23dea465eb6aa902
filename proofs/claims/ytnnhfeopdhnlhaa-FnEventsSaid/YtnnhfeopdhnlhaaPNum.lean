/- The law of numbers: they are recovered from their bytes. No condition. -/
import Derived.Test.YtnnhfeopdhnlhaaPDrw
import Derived.Test.YtnnhfeopdhnlhaaPSrc2
set_option linter.unusedVariables false
set_option linter.unusedSimpArgs false
namespace Go.Ry
variable {C : Calls_}

/-! ### bytes of a number, the lowest first -/
def leB (n : Int) : Nat → List Int
  | 0 => []
  | k + 1 => IntKind.wrap .u8 n :: leB (n / 256) k
def leN : List Int → Int
  | [] => 0
  | x :: l => x + 256 * leN l
theorem wu8 (x : Int) : IntKind.wrap .u8 x = x % 256 := by simp [IntKind.wrap, IntKind.signed, IntKind.bits]
theorem leB_length (n : Int) (k : Nat) : (leB n k).length = k := by
  induction k generalizing n with
  | zero => rfl
  | succ k ih => simp [leB, ih]
theorem leB_isB (n : Int) (k : Nat) : isB (leB n k) := by
  induction k generalizing n with
  | zero => intro x hx; simp [leB] at hx
  | succ k ih =>
    intro x hx
    simp only [leB, List.mem_cons] at hx
    rcases hx with rfl | hx
    · rw [wu8]; omega
    · exact ih _ x hx
theorem toBytes {l : List Int} (h : isB l) : bytesL (strL l) = l := by
  induction l with
  | nil => rfl
  | cons x l ih =>
    have hx := h x (by simp)
    have := ih (fun y hy => h y (by simp [hy]))
    simp only [bytesL, strL, List.map_cons, List.toList_toArray] at this ⊢
    rw [this]
    congr 1
    rw [UInt8.toNat_ofNat_of_lt' (by rw [show UInt8.size = 256 from rfl]; omega)]
    omega
theorem strL_size (l : List Int) : (strL l).size = l.length := by simp [strL, ByteArray.size]
/-- Half the numbers of z bytes. -/
def half (z : Int) : Int := if z = 1 then 128 else if z = 2 then 32768 else 2147483648
def sgn (z v : Int) : Int := if half z ≤ v then v - 2 * half z else v
def isZ (z : Int) : Prop := z = 1 ∨ z = 2 ∨ z = 4
theorem sgn_leB {z n : Int} (hz : isZ z) (h : inR n (-half z) (half z - 1) = true) : sgn z (leN (leB n z.toNat)) = n := by
  have h := inR_t h
  rcases hz with rfl | rfl | rfl
  · simp only [half, if_true] at h
    simp only [show (1 : Int).toNat = 1 from rfl, leB, leN, wu8, sgn, half, if_true]; split <;> omega
  · simp only [half, show (2 : Int) ≠ 1 by decide, if_false, if_true] at h
    simp only [show (2 : Int).toNat = 2 from rfl, leB, leN, wu8, sgn, half, show (2 : Int) ≠ 1 by decide, if_false, if_true]; split <;> omega
  · simp only [half, show (4 : Int) ≠ 1 by decide, show (4 : Int) ≠ 2 by decide, if_false] at h
    simp only [show (4 : Int).toNat = 4 from rfl, leB, leN, wu8, sgn, half, show (4 : Int) ≠ 1 by decide, show (4 : Int) ≠ 2 by decide, if_false]; split <;> omega
theorem leB_u64 {z n : Int} (hz : isZ z) : leB (IntKind.wrap .u64 n) z.toNat = leB n z.toNat := by
  have e : IntKind.wrap .u64 n = n % 18446744073709551616 := by simp [IntKind.wrap, IntKind.signed, IntKind.bits]
  rw [e]
  rcases hz with rfl | rfl | rfl
  · simp only [show (1 : Int).toNat = 1 from rfl, leB, wu8, List.cons.injEq, and_true]; omega
  · simp only [show (2 : Int).toNat = 2 from rfl, leB, wu8, List.cons.injEq, and_true]; omega
  · simp only [show (4 : Int).toNat = 4 from rfl, leB, wu8, List.cons.injEq, and_true]; omega

theorem fdiv8 (n : Int) (k : IntKind) (h : 8 ≤ k.bits) : Int.fdiv n (2 ^ min (Int.toNat (8 : Int)) k.bits) = n / 256 := by
  rw [show min (Int.toNat (8 : Int)) k.bits = 8 from Nat.min_eq_left h, show (2 : Int) ^ 8 = 256 by decide, Int.fdiv_eq_ediv_of_nonneg _ (by decide)]
def K_put (n : Nat) (C : Calls_) : Prop := ∀ x z : Int, isZ z → C n [.one (.int .i64 x), .one (.int .i64 z)] [] (.one (.str (strL (leB x z.toNat)))) []
def K_isZ (n : Nat) (C : Calls_) : Prop := ∀ z : Int, isZ z → C n [.one (.int .i64 z)] [] (.one (.bool true)) []
@[reducible] def strI (s : ByteArray) (n : Int) : Ent := .tup [(false, [.str s]), (false, [.int .i64 n])]
def putS (x z : Int) : ByteArray := if inR x (-half z) (half z - 1) = true then strL (leB x z.toNat) else ⟨#[]⟩
def putE (x z : Int) : Int := if inR x (-half z) (half z - 1) = true then 0 else 4
def K_PutNumber (n : Nat) (C : Calls_) : Prop := ∀ x z : Int, isZ z → C n [.one (.int .i64 x), .one (.int .i64 z)] [] (strI (putS x z) (putE x z)) []
theorem bound_eq {z : Int} (hz : isZ z) : IntKind.wrap .i64 ((1 : Int) * 2 ^ min (Int.toNat (IntKind.wrap .i64 ((IntKind.wrap .i64 ((8 : Int) * z)) - (1 : Int)))) (IntKind.bits .i64)) = half z := by
  rcases hz with rfl | rfl | rfl <;> decide
theorem bound_eq' {z : Int} (hz : isZ z) : IntKind.wrap .i64 ((1 : Int) * 2 ^ min (Int.toNat (IntKind.wrap .u64 (IntKind.wrap .i64 ((IntKind.wrap .i64 ((8 : Int) * z)) - (1 : Int))))) (IntKind.bits .i64)) = half z := by
  rcases hz with rfl | rfl | rfl <;> decide
theorem half_range {z : Int} : 128 ≤ half z ∧ half z ≤ 2147483648 := by unfold half; split; omega; split <;> omega
/-! ### a number from its bytes -/
theorem leN_range {l : List Int} (h : isB l) : 0 ≤ leN l ∧ leN l < 256 ^ l.length := by
  induction l with
  | nil => simp [leN]
  | cons x l ih =>
    have hx := h x (by simp)
    have := ih (fun y hy => h y (by simp [hy]))
    simp only [leN, List.length_cons, Int.pow_succ]
    omega
theorem bytesL_isB (s : ByteArray) : isB (bytesL s) := by
  intro x hx
  simp only [bytesL, List.mem_map] at hx
  obtain ⟨b, _, rfl⟩ := hx
  have := b.toNat_lt
  omega
def takeOK (s : ByteArray) (a z : Int) : Bool := inR a 0 ((s.size : Int) - z)
theorem bytesL_append (a b : ByteArray) : bytesL (a ++ b) = bytesL a ++ bytesL b := by simp [bytesL]
end Go.Ry
