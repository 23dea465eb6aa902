/- The law of numbers: they are recovered from their bytes. No condition. -/
import Derived.Test.YtlphiljackccnaaPDrw
import Derived.Test.YtlphiljackccnaaPSrc2
set_option linter.unusedVariables false
set_option linter.unusedSimpArgs false
namespace Go.Ry
variable {C : Calls_}

/-! ### bytes of a number, the lowest first -/
def leB (n : Int) : Nat → List Int
  | 0 => []
  | k + 1 => IntKind.wrap .u8 n :: leB (n / 256) k
def leN : List Int → Int
  | [] => 0
  | x :: l => x + 256 * leN l
theorem wu8 (x : Int) : IntKind.wrap .u8 x = x % 256 := by simp [IntKind.wrap, IntKind.signed, IntKind.bits]
theorem leB_length (n : Int) (k : Nat) : (leB n k).length = k := by
  induction k generalizing n with
  | zero => rfl
  | succ k ih => simp [leB, ih]
theorem leB_isB (n : Int) (k : Nat) : isB (leB n k) := by
  induction k generalizing n with
  | zero => intro x hx; simp [leB] at hx
  | succ k ih =>
    intro x hx
    simp only [leB, List.mem_cons] at hx
    rcases hx with rfl | hx
    · rw [wu8]; omega
    · exact ih _ x hx
theorem toBytes {l : List Int} (h : isB l) : bytesL (strL l) = l := by
  induction l with
  | nil => rfl
  | cons x l ih =>
    have hx := h x (by simp)
    have := ih (fun y hy => h y (by simp [hy]))
    simp only [bytesL, strL, List.map_cons, List.toList_toArray] at this ⊢
    rw [this]
    congr 1
    rw [UInt8.toNat_ofNat_of_lt' (by rw [show UInt8.size = 256 from rfl]; omega)]
    omega
theorem strL_size (l : List Int) : (strL l).size = l.length := by simp [strL, ByteArray.size]
/-- Half the numbers of z bytes. -/
def half (z : Int) : Int := if z = 1 then 128 else if z = 2 then 32768 else 2147483648
def sgn (z v : Int) : Int := if half z ≤ v then v - 2 * half z else v
def isZ (z : Int) : Prop := z = 1 ∨ z = 2 ∨ z = 4
theorem sgn_leB {z n : Int} (hz : isZ z) (h : inR n (-half z) (half z - 1) = true) : sgn z (leN (leB n z.toNat)) = n := by
  have h := inR_t h
  rcases hz with rfl | rfl | rfl
  · simp only [half, if_true] at h
    simp only [show (1 : Int).toNat = 1 from rfl, leB, leN, wu8, sgn, half, if_true]; split <;> omega
  · simp only [half, show (2 : Int) ≠ 1 by decide, if_false, if_true] at h
    simp only [show (2 : Int).toNat = 2 from rfl, leB, leN, wu8, sgn, half, show (2 : Int) ≠ 1 by decide, if_false, if_true]; split <;> omega
  · simp only [half, show (4 : Int) ≠ 1 by decide, show (4 : Int) ≠ 2 by decide, if_false] at h
    simp only [show (4 : Int).toNat = 4 from rfl, leB, leN, wu8, sgn, half, show (4 : Int) ≠ 1 by decide, show (4 : Int) ≠ 2 by decide, if_false]; split <;> omega
theorem leB_u64 {z n : Int} (hz : isZ z) : leB (IntKind.wrap .u64 n) z.toNat = leB n z.toNat := by
  have e : IntKind.wrap .u64 n = n % 18446744073709551616 := by simp [IntKind.wrap, IntKind.signed, IntKind.bits]
  rw [e]
  rcases hz with rfl | rfl | rfl
  · simp only [show (1 : Int).toNat = 1 from rfl, leB, wu8, List.cons.injEq, and_true]; omega
  · simp only [show (2 : Int).toNat = 2 from rfl, leB, wu8, List.cons.injEq, and_true]; omega
  · simp only [show (4 : Int).toNat = 4 from rfl, leB, wu8, List.cons.injEq, and_true]; omega

theorem fdiv8 (n : Int) (k : IntKind) (h : 8 ≤ k.bits) : Int.fdiv n (2 ^ min (Int.toNat (8 : Int)) k.bits) = n / 256 := by
  rw [show min (Int.toNat (8 : Int)) k.bits = 8 from Nat.min_eq_left h, show (2 : Int) ^ 8 = 256 by decide, Int.fdiv_eq_ediv_of_nonneg _ (by decide)]
def K_put (n : Nat) (C : Calls_) : Prop := ∀ x z : Int, isZ z → C n [.one (.int .i64 x), .one (.int .i64 z)] [] (.one (.str (strL (leB x z.toNat)))) []
theorem p_impl_put (x z : Int) (hz : isZ z) : v_impl_put C (fun r os => r = .one (.str (strL (leB x z.toNat))) ∧ os = []) x z := by
  have hz' : 1 ≤ z ∧ z ≤ 4 := by rcases hz with rfl | rfl | rfl <;> omega
  refine ⟨fun m y z' i r => z = z' ∧ 0 ≤ i ∧ i ≤ z ∧ m = (z - i).toNat ∧ r.length = i.toNat ∧ r ++ leB y m = leB x z.toNat, ⟨_, rfl, by omega, by omega, rfl, rfl, by simp⟩, ?_⟩
  rintro m y _ i r ⟨rfl, h0, h1, hm, h2, h3⟩
  refine ifP (fun hlt => ?_) (fun hge => ?_)
  · obtain ⟨k, rfl⟩ : ∃ k, m = k + 1 := ⟨m - 1, by omega⟩
    rw [w64 (x := i + 1) (by omega), fdiv8 _ _ (by decide)]
    simp only [leB] at h3
    exact ⟨by simp; omega, by decide, k, by omega, rfl, by omega, by omega, by omega, by simp; omega, by rw [List.append_assoc]; exact h3⟩
  · have : m = 0 := by omega
    subst this
    simp only [leB, List.append_nil] at h3
    rw [h3]; exact ⟨rfl, rfl⟩
theorem p_spec_l01Put (x z : Int) (hz : isZ z) : v_spec_l01Put C (fun r os => r = .one (.str (strL (leB x z.toNat))) ∧ os = []) x z := by
  have hz' : 1 ≤ z ∧ z ≤ 4 := by rcases hz with rfl | rfl | rfl <;> omega
  refine ⟨fun m z' y i r => z = z' ∧ 0 ≤ i ∧ i ≤ z ∧ m = (z - i).toNat ∧ r.length = i.toNat ∧ r ++ leB y m = leB x z.toNat, ⟨_, rfl, by omega, by omega, rfl, rfl, by simp [leB_u64 hz]⟩, ?_⟩
  rintro m _ y i r ⟨rfl, h0, h1, hm, h2, h3⟩
  refine ifP (fun hlt => ?_) (fun hge => ?_)
  · obtain ⟨k, rfl⟩ : ∃ k, m = k + 1 := ⟨m - 1, by omega⟩
    rw [w64 (x := i + 1) (by omega), fdiv8 _ _ (by decide)]
    simp only [leB] at h3
    exact ⟨by simp; omega, by decide, k, by omega, rfl, by omega, by omega, by omega, by simp; omega, by rw [List.append_assoc]; exact h3⟩
  · have : m = 0 := by omega
    subst this
    simp only [leB, List.append_nil] at h3
    rw [h3]; exact ⟨rfl, rfl⟩
def K_isZ (n : Nat) (C : Calls_) : Prop := ∀ z : Int, isZ z → C n [.one (.int .i64 z)] [] (.one (.bool true)) []
theorem p_impl_isWidth (z : Int) (hz : isZ z) : v_impl_isWidth C (fun r os => r = .one (.bool true) ∧ os = []) z :=
  ifE (fun _ => ⟨rfl, rfl⟩) (fun h1 => ifE (fun _ => ⟨rfl, rfl⟩) (fun h2 => kb (by rcases hz with h | h | h; exact absurd h h1; exact absurd h h2; simp [h])))
theorem p_spec_l01Size (z : Int) (hz : isZ z) : v_spec_l01Size C (fun r os => r = .one (.bool true) ∧ os = []) z := p_impl_isWidth (C := C) z hz
@[reducible] def strI (s : ByteArray) (n : Int) : Ent := .tup [(false, [.str s]), (false, [.int .i64 n])]
def putS (x z : Int) : ByteArray := if inR x (-half z) (half z - 1) = true then strL (leB x z.toNat) else ⟨#[]⟩
def putE (x z : Int) : Int := if inR x (-half z) (half z - 1) = true then 0 else 4
def K_PutNumber (n : Nat) (C : Calls_) : Prop := ∀ x z : Int, isZ z → C n [.one (.int .i64 x), .one (.int .i64 z)] [] (strI (putS x z) (putE x z)) []
theorem bound_eq {z : Int} (hz : isZ z) : IntKind.wrap .i64 ((1 : Int) * 2 ^ min (Int.toNat (IntKind.wrap .i64 ((IntKind.wrap .i64 ((8 : Int) * z)) - (1 : Int)))) (IntKind.bits .i64)) = half z := by
  rcases hz with rfl | rfl | rfl <;> decide
theorem bound_eq' {z : Int} (hz : isZ z) : IntKind.wrap .i64 ((1 : Int) * 2 ^ min (Int.toNat (IntKind.wrap .u64 (IntKind.wrap .i64 ((IntKind.wrap .i64 ((8 : Int) * z)) - (1 : Int))))) (IntKind.bits .i64)) = half z := by
  rcases hz with rfl | rfl | rfl <;> decide
theorem half_range {z : Int} : 128 ≤ half z ∧ half z ≤ 2147483648 := by unfold half; split; omega; split <;> omega
theorem p_impl_PutNumber (hw : K_isZ n_impl_isWidth C) (hin : K_in n_impl_within C) (hp : K_put n_impl_put C) (x z : Int) (hz : isZ z) :
    v_impl_PutNumber C (fun r os => r = strI (putS x z) (putE x z) ∧ os = []) x z := by
  have hh := half_range (z := z)
  unfold v_impl_PutNumber
  rw [bound_eq hz, w64 (x := 0 - half z) (by omega), w64 (x := half z - 1) (by omega)]
  refine ⟨_, hw z hz, rfl, ifB_f rfl ⟨by rcases hz with rfl | rfl | rfl <;> decide, _, hin _ _ _, rfl, ?_⟩⟩
  rw [show (0 : Int) - half z = -half z by omega]
  unfold putS putE
  refine ifB_cases (fun h => ?_) (fun h => ⟨_, hp x z hz, rfl, ?_⟩)
  · rw [if_neg (by rw [not_t h]; simp), if_neg (by rw [not_t h]; simp)]; exact ⟨rfl, rfl⟩
  · rw [if_pos (not_f h), if_pos (not_f h)]; exact ⟨rfl, rfl⟩
def K_Fits (C : Calls_) : Prop := ∀ x z : Int, isZ z → C n_spec_l01Fits [.one (.int .i64 x), .one (.int .i64 z)] [] (.one (.bool (inR x (-half z) (half z - 1)))) []
theorem p_spec_l01Fits (hin : K_in n_spec_l01In C) (x z : Int) (hz : isZ z) : v_spec_l01Fits C (fun r os => r = .one (.bool (inR x (-half z) (half z - 1))) ∧ os = []) x z := by
  have hh := half_range (z := z)
  unfold v_spec_l01Fits
  rw [bound_eq' hz, w64 (x := half z - 1) (by omega), w64 (x := 0 - (half z - 1)) (by omega), w64 (x := 0 - (half z - 1) - 1) (by omega), show 0 - (half z - 1) - 1 = -half z by omega]
  exact ⟨by rcases hz with rfl | rfl | rfl <;> decide, _, hin _ _ _, rfl, rfl, rfl⟩
theorem p_spec_PutNumber (hw : K_isZ n_spec_l01Size C) (hf : K_Fits C) (hp : K_put n_spec_l01Put C) (x z : Int) (hz : isZ z) :
    v_spec_PutNumber C (fun r os => r = strI (putS x z) (putE x z) ∧ os = []) x z := by
  refine ⟨_, hw z hz, rfl, ifB_f rfl ⟨_, hf x z hz, rfl, ?_⟩⟩
  unfold putS putE
  refine ifB_cases (fun h => ?_) (fun h => ⟨_, hp x z hz, rfl, ?_⟩)
  · rw [if_neg (by rw [not_t h]; simp), if_neg (by rw [not_t h]; simp)]; exact ⟨rfl, rfl⟩
  · rw [if_pos (not_f h), if_pos (not_f h)]; exact ⟨rfl, rfl⟩

/-! ### a number from its bytes -/
theorem leN_range {l : List Int} (h : isB l) : 0 ≤ leN l ∧ leN l < 256 ^ l.length := by
  induction l with
  | nil => simp [leN]
  | cons x l ih =>
    have hx := h x (by simp)
    have := ih (fun y hy => h y (by simp [hy]))
    simp only [leN, List.length_cons, Int.pow_succ]
    omega
def K_takeZ (C : Calls_) : Prop := ∀ s : ByteArray, isZ s.size → C n_impl_take [.one (.str s)] [] (.one (.int .i64 (sgn s.size (leN (bytesL s))))) []
theorem bytesL_isB (s : ByteArray) : isB (bytesL s) := by
  intro x hx
  simp only [bytesL, List.mem_map] at hx
  obtain ⟨b, _, rfl⟩ := hx
  have := b.toNat_lt
  omega
theorem p_impl_takeZ (s : ByteArray) (h : isZ s.size) : v_impl_take C (fun r os => r = .one (.int .i64 (sgn s.size (leN (bytesL s)))) ∧ os = []) s := by
  have hsz : (1 : Int) ≤ s.size ∧ (s.size : Int) ≤ 4 := by rcases h with h | h | h <;> omega
  have e8 : (2 : Int) ^ min (Int.toNat (8 : Int)) (IntKind.bits .i64) = 256 := by decide
  have hlen := bytesL_size s
  have hr : ∀ i : Nat, i ≤ 4 → 0 ≤ leN ((bytesL s).drop i) ∧ leN ((bytesL s).drop i) < 4294967296 := by
    intro i _
    have hb : isB ((bytesL s).drop i) := fun x hx => bytesL_isB s x (List.mem_of_mem_drop hx)
    have := leN_range hb
    have h4 : ((bytesL s).drop i).length ≤ 4 := by simp; omega
    have hc : ((bytesL s).drop i).length = 0 ∨ ((bytesL s).drop i).length = 1 ∨ ((bytesL s).drop i).length = 2 ∨ ((bytesL s).drop i).length = 3 ∨ ((bytesL s).drop i).length = 4 := by omega
    rcases hc with e | e | e | e | e <;> rw [e] at this <;> simp only [Int.reducePow] at this <;> omega
  have hst : ∀ i : Nat, i < s.size → leN ((bytesL s).drop i) = (bytesL s).getD i 0 + 256 * leN ((bytesL s).drop (i + 1)) := by
    intro i hi
    rw [List.drop_eq_getElem_cons (by omega), leN, List.getD_eq_getElem?_getD, List.getElem?_eq_getElem (by omega)]; rfl
  refine ⟨fun t v => s = t ∧ v = leN (bytesL s),
    ⟨fun m t v i => s = t ∧ -1 ≤ i ∧ i < s.size ∧ m = (i + 1).toNat ∧ v = leN ((bytesL s).drop m), ⟨s.size, rfl, ?_, ?_, ?_, ?_⟩, ?_⟩, ?_⟩
  · rw [w64 (by omega)]; omega
  · rw [w64 (by omega)]; omega
  · rw [w64 (by omega)]; omega
  · rw [List.drop_eq_nil_of_le (by omega)]; rfl
  · rintro m t v i ⟨rfl, h0, h1, rfl, rfl⟩
    refine ifP (fun hge => ?_) (fun hlt => ⟨rfl, ?_⟩)
    · have a1 := hr (i + 1).toNat (by omega)
      have a2 := bytes_at (s := s) (i := i.toNat)
      have a3 := hst i.toNat (by omega)
      rw [e8, w64 (x := i - 1) (by omega), w64 (x := leN _ * 256) (by omega), w64 (x := (bytesL s).getD i.toNat 0) (by omega), or_byte (by omega) a2]
      refine ⟨by decide, ⟨by omega, by omega⟩, i.toNat, by omega, rfl, by omega, by omega, by omega, ?_⟩
      rw [a3, show i.toNat + 1 = (i + 1).toNat by omega]; omega
    · rw [show (i + 1).toNat = 0 by omega]; rfl
  · rintro t v ⟨rfl, rfl⟩
    have a1 := hr 0 (by omega)
    rw [List.drop_zero] at a1
    have hh := half_range (z := s.size)
    rw [bound_eq h]
    refine ⟨by rcases h with h | h | h <;> rw [h] <;> decide, ifP (fun hge => ⟨?_, rfl⟩) (fun hlt => ⟨?_, rfl⟩)⟩
    · rw [w64 (x := 2 * half s.size) (by omega), w64 (by omega), sgn, if_pos (by omega)]
    · rw [sgn, if_neg (by omega)]
def takeOK (s : ByteArray) (a z : Int) : Bool := inR a 0 ((s.size : Int) - z)
def K_TakeNumberZ (C : Calls_) : Prop := ∀ (s : ByteArray) (a z : Int), s.size ≤ 65536 → isZ z → C n_impl_TakeNumber [.one (.str s), .one (.int .i64 a), .one (.int .i64 z)] []
  (two (if takeOK s a z = true then sgn z (leN (((bytesL s).drop a.toNat).take z.toNat)) else 0) (if takeOK s a z = true then 0 else 16)) []
theorem p_impl_TakeNumberZ (hl : K_long C) (hw : K_isZ n_impl_isWidth C) (hwh : K_when C) (hf : K_first C) (hin : K_in n_impl_within C) (ht : K_takeZ C) (s : ByteArray) (a z : Int) (hs : s.size ≤ 65536) (hz : isZ z) :
    v_impl_TakeNumber C (fun r os => r = two (if takeOK s a z = true then sgn z (leN (((bytesL s).drop a.toNat).take z.toNat)) else 0) (if takeOK s a z = true then 0 else 16) ∧ os = []) s a z := by
  have hz' : 1 ≤ z ∧ z ≤ 4 := by rcases hz with rfl | rfl | rfl <;> omega
  have k0 := hl s
  rw [if_neg (by omega)] at k0
  have k1 := hwh false 4
  rw [if_neg (by simp)] at k1
  refine ⟨_, k0, rfl, _, hw z hz, rfl, _, k1, rfl, _, hf _ (by simp), rfl, ifN_f rfl ⟨_, hin _ _ _, rfl, ?_⟩⟩
  rw [w64 (x := (s.size : Int) - z) (by omega)]
  unfold takeOK
  refine ifB_cases (fun h => ?_) (fun h => ?_)
  · rw [if_neg (by rw [not_t h]; simp), if_neg (by rw [not_t h]; simp)]; exact ⟨rfl, rfl⟩
  · rw [if_pos (not_f h), if_pos (not_f h)]
    have h' := inR_t (not_f h)
    rw [w64 (x := a + z) (by omega)]
    have e : ((s.extract a.toNat (a + z).toNat).size : Int) = z := by
      rw [ByteArray.size_extract]; omega
    have kt := ht (s.extract a.toNat (a + z).toNat) (by rw [e]; exact hz)
    rw [e, bytes_extract s (by omega), List.drop_take, show (a + z).toNat - a.toNat = z.toNat by omega] at kt
    exact ⟨⟨by omega, by omega, by omega⟩, _, kt, rfl, rfl, rfl⟩

theorem bytesL_append (a b : ByteArray) : bytesL (a ++ b) = bytesL a ++ bytesL b := by simp [bytesL]
section
variable (hat : K_at C) (hv : K_ValueDrawn C) (hst : K_SomeText C) (hp : K_PutNumber n_impl_PutNumber C) (hps : K_PutNumber n_spec_PutNumber C) (ht : K_TakeNumberZ C)
include hat hv hst hp hps ht
theorem p_laws_FnNumbers (l1 l2 : List Int) (hb1 : isB l1) (hb2 : isB l2) : v_laws_FnNumbers C (fun r os => r = .one (.bool true) ∧ os = []) l1 l2 := by
  refine ifP (fun _ => ⟨rfl, rfl⟩) (fun h1 => ifP (fun _ => ⟨rfl, rfl⟩) (fun h2 => ?_))
  have hn1 : l1.length ≤ 1048576 := by omega
  have hn2 : l2.length ≤ 1048576 := by omega
  obtain ⟨r, r0, r1, _, cr⟩ := hat l2 0 3 hb2 (by omega) hn2
  have r1 := r1 (by omega)
  obtain ⟨q, q0, q1, _, cq⟩ := hat l2 1 9 hb2 (by omega) hn2
  have q1 := q1 (by omega)
  obtain ⟨v, hv0, cv⟩ := hv l1 hb1 hn1
  have hz : isZ ([1, 2, 4].getD r.toNat (0 : Int)) := by
    have : r = 0 ∨ r = 1 ∨ r = 2 := by omega
    rcases this with rfl | rfl | rfl
    · exact .inl rfl
    · exact .inr (.inl rfl)
    · exact .inr (.inr rfl)
  refine ⟨_, cr, rfl, ⟨r0, by simp; omega⟩, _, cv, rfl, ?_⟩
  generalize [1, 2, 4].getD r.toNat (0 : Int) = z at hz
  refine ⟨fun l z' w => l2 = l ∧ z = z' ∧ (-2147483648 ≤ w ∧ w ≤ 2147483647) ∧ (z = 1 → inR w (-128) 127 = true), ifE (fun h => ⟨by omega, rfl, rfl, ?_, fun _ => ?_⟩) (fun h => ⟨rfl, rfl, hv0, fun h' => absurd h' h⟩), ?_⟩
  · have := Int.tmod_lt_of_pos v (b := 128) (by omega); have := Int.lt_tmod_of_pos v (b := 128) (by omega); omega
  · have := Int.tmod_lt_of_pos v (b := 128) (by omega); have := Int.lt_tmod_of_pos v (b := 128) (by omega); simp [inR]; omega
  rintro _ _ w ⟨rfl, rfl, hw, hw1⟩
  refine ⟨fun l z' w => l2 = l ∧ z = z' ∧ inR w (-half z) (half z - 1) = true, ifE (fun h => ⟨by omega, rfl, rfl, ?_⟩) (fun h => ⟨rfl, rfl, ?_⟩), ?_⟩
  · have := Int.tmod_lt_of_pos w (b := 32768) (by omega); have := Int.lt_tmod_of_pos w (b := 32768) (by omega)
    subst h; simp [inR, half]; omega
  · rcases hz with h' | h' | h'
    · subst h'; exact hw1 rfl
    · exact absurd h' h
    · subst h'; simp [inR, half]; omega
  rintro _ _ w ⟨rfl, rfl, hin⟩
  have hz' : 1 ≤ z ∧ z ≤ 4 := by rcases hz with rfl | rfl | rfl <;> omega
  have ct := hst l2 q hb2 hn2 (by omega)
  have htl : (textD l2 q).length = q.toNat := someL_length _ _ _ _
  have hth : (strL (textD l2 q)).size = q.toNat := by rw [strL_size, htl]
  have c1 := hp w z hz
  have c2 := hps w z hz
  have c3 := hp 2147483648 4 (by simp [isZ])
  have e3 : putE 2147483648 4 = 4 := by decide
  have es : putS w z = strL (leB w z.toNat) := by unfold putS; rw [if_pos hin]
  have ee : putE w z = 0 := by unfold putE; rw [if_pos hin]
  have hpl : (putS w z).size = z.toNat := by rw [es, strL_size, leB_length]
  have a1 := ht (strL (textD l2 q) ++ putS w z ++ (⟨#[120]⟩ : ByteArray)) ((strL (textD l2 q)).size : Int) z (by simp [ByteArray.size_append, hth, hpl, show (⟨#[120]⟩ : ByteArray).size = 1 from rfl]; omega) hz
  have ok1 : takeOK (strL (textD l2 q) ++ putS w z ++ (⟨#[120]⟩ : ByteArray)) ((strL (textD l2 q)).size : Int) z = true := by
    simp [takeOK, inR, ByteArray.size_append, hth, hpl, show (⟨#[120]⟩ : ByteArray).size = 1 from rfl]; omega
  rw [if_pos ok1, if_pos ok1, bytesL_append, bytesL_append, es, toBytes (leB_isB _ _), List.append_assoc, Int.toNat_natCast, ← bytesL_size, List.drop_left' rfl, List.take_append_of_le_length (by rw [leB_length]; omega), List.take_of_length_le (by rw [leB_length]; omega), sgn_leB hz hin] at a1
  have a2 := ht (strL (textD l2 q) ++ putS w z) (IntKind.wrap .i64 (((strL (textD l2 q)).size : Int) + 1)) z (by simp [ByteArray.size_append, hth, hpl]; omega) hz
  have ok2 : ¬ takeOK (strL (textD l2 q) ++ putS w z) (IntKind.wrap .i64 (((strL (textD l2 q)).size : Int) + 1)) z = true := by
    rw [w64 (by omega)]
    simp [takeOK, inR, ByteArray.size_append, hth, hpl]; omega
  rw [if_neg ok2, if_neg ok2] at a2
  rw [bytesL_size] at a1
  refine ⟨_, cq, rfl, _, ct, rfl, _, _, c1, rfl, _, _, c2, rfl, by rw [hth, hpl]; omega, by simp [ByteArray.size_append, hth, hpl, show (⟨#[120]⟩ : ByteArray).size = 1 from rfl]; omega, _, _, by rw [es]; exact a1, rfl, by rw [hth, hpl]; omega, _, _, a2, rfl, _, _, c3, rfl, ?_⟩
  rw [ee, e3]
  exact ifB_t rfl (ifB_t (by simp) (ifB_t (by rw [hpl]; simp; omega) (ifB_t rfl (ifB_t (by simp) (ifB_t rfl ⟨rfl, rfl⟩)))))
end
def K_FnNumbers (C : Calls_) : Prop := ∀ l1 l2 : List Int, isB l1 → isB l2 → C n_laws_FnNumbers [.one (.sl (.int .u8) l1), .one (.sl (.int .u8) l2)] [] (.one (.bool true)) []
end Go.Ry
