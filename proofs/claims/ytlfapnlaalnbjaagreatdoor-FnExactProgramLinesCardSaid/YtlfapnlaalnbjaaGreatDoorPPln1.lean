/- The lines of programs. No condition. -/
import Derived.Test.YtlfapnlaalnbjaaGreatDoorPIns1
import Derived.Test.YtlfapnlaalnbjaaGreatDoorPVer6
import Derived.Test.YtlfapnlaalnbjaaGreatDoorPTxt3
import Derived.Test.YtlfapnlaalnbjaaGreatDoorPDat1
set_option linter.unusedVariables false
set_option linter.unusedSimpArgs false
namespace Go.Ry
open Go.Proofs

def kindsB : List ByteArray := [(⟨#[116, 105, 109, 101, 114]⟩ : ByteArray), (⟨#[99, 111, 117, 110, 116, 101, 114]⟩ : ByteArray), (⟨#[101, 100, 103, 101]⟩ : ByteArray), (⟨#[108, 97, 116, 99, 104]⟩ : ByteArray)]
def kindB (k : Int) : ByteArray := kindsB.getD (k - 1).toNat ⟨#[]⟩
theorem kindsB_size : ∀ x ∈ kindsB, x.size ≤ 7 := by decide
theorem kindB_size (k : Int) : (kindB k).size ≤ 7 := by
  unfold kindB
  rw [List.getD_eq_getElem?_getD]
  cases h : kindsB[(k - 1).toNat]? with
  | none => decide
  | some x => exact kindsB_size x (List.mem_of_getElem? h)
theorem c_impl_kindName (k : Int) (h : isKind k = true) : TT n_impl_kindName [eI k] [] (eS (kindB k)) [] := by
  have hr := within_iff.1 (show within k 1 4 = true from h)
  refine r_impl_kindName k ?_
  unfold v_impl_kindName
  rw [w64 (x := k - 1) (by omega)]
  exact ⟨⟨by omega, by omega⟩, rfl, rfl⟩
/-- Pins as digits. -/
def pinsG : ByteArray → List Bool → ByteArray
  | s, [] => s
  | s, b :: l => pinsG (s ++ itoaB (bitI b)) l
theorem pinsG_cons (s : ByteArray) (b : Bool) (l : List Bool) : pinsG s (b :: l) = pinsG (s ++ itoaB (bitI b)) l := rfl
def pinsT (l : List Bool) : ByteArray := pinsG ⟨#[]⟩ l
theorem bit_i64 (b : Bool) : i64 (bitI b) := by cases b <;> (unfold i64 bitI; simp)
theorem pinsG_size : ∀ (l : List Bool) (s : ByteArray), (pinsG s l).size ≤ s.size + 21 * l.length
  | [], s => by simp [pinsG]
  | b :: l, s => by
    have := pinsG_size l (s ++ itoaB (bitI b))
    have h2 := itoaB_size (bitI b)
    rw [pinsG_cons, List.length_cons]
    rw [size_append] at this
    omega
theorem pinsT_size (l : List Bool) : (pinsT l).size ≤ 21 * l.length := by
  have := pinsG_size l ⟨#[]⟩
  have e : (⟨#[]⟩ : ByteArray).size = 0 := rfl
  unfold pinsT; omega
theorem c_impl_bitsText (l : List Bool) (hl : l.length ≤ 1048576) : TT n_impl_bitsText [.one (.sl .bool l)] [] (eS (pinsT l)) [] := by
  refine r_impl_bitsText l ⟨fun m s i => 0 ≤ i ∧ i ≤ l.length ∧ m = (l.length - i).toNat ∧ (s.size : Int) ≤ 21 * i ∧ pinsG s (l.drop i.toNat) = pinsT l, ⟨_, rfl, by omega, by omega, rfl, by simp [ByteArray.size], rfl⟩, ?_⟩
  rintro m s i ⟨h0, h1, rfl, h2, h3⟩
  refine ifP (fun hlt => ?_) (fun hge => ?_)
  · rw [drop_getD (l := l) (i := i.toNat) (by omega) false, pinsG_cons] at h3
    have hs := itoaB_size (bitI (l.getD i.toNat false))
    rw [w64 (x := i + 1) (by omega)]
    refine ⟨⟨h0, hlt⟩, _, c_impl_bit _, _, c_impl_decimal _ (bit_i64 _), by omega, _, ?_, rfl, by omega, by omega, rfl, ?_, ?_⟩
    · omega
    · rw [size_append]; omega
    · rw [toNat_succ h0]; exact h3
  · rw [List.drop_eq_nil_of_le (by omega)] at h3
    exact ⟨by rw [← h3]; rfl, rfl⟩
theorem c_spec_l13Pins (l : List Bool) (hl : l.length ≤ 1048576) : TT n_spec_l13Pins [.one (.sl .bool l)] [] (eS (pinsT l)) [] := by
  refine r_spec_l13Pins l ⟨fun m s i => 0 ≤ i ∧ i ≤ l.length ∧ m = (l.length - i).toNat ∧ (s.size : Int) ≤ 21 * i ∧ pinsG s (l.drop i.toNat) = pinsT l, ⟨_, rfl, by omega, by omega, rfl, by simp [ByteArray.size], rfl⟩, ?_⟩
  rintro m s i ⟨h0, h1, rfl, h2, h3⟩
  refine ifP (fun hlt => ?_) (fun hge => ?_)
  · rw [drop_getD (l := l) (i := i.toNat) (by omega) false, pinsG_cons] at h3
    have hs := itoaB_size (bitI (l.getD i.toNat false))
    rw [w64 (x := i + 1) (by omega)]
    refine ⟨⟨h0, hlt⟩, _, c_spec_l06Bit _, _, c_spec_l00Digits _ (bit_i64 _), by omega, _, ?_, rfl, by omega, by omega, rfl, ?_, ?_⟩
    · omega
    · rw [size_append]; omega
    · rw [toNat_succ h0]; exact h3
  · rw [List.drop_eq_nil_of_le (by omega)] at h3
    exact ⟨by rw [← h3]; rfl, rfl⟩
end Go.Ry
