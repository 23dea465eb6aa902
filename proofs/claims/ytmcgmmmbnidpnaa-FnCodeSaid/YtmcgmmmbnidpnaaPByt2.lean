/- Frames, read. No condition. -/
import Derived.Test.YtmcgmmmbnidpnaaPByt1
set_option linter.unusedVariables false
set_option linter.unusedSimpArgs false
namespace Go.Ry
open Go.Proofs

theorem toBytes {l : List Int} (h : isB l) : bytesL (strL l) = l := by
  induction l with
  | nil => rfl
  | cons x l ih =>
    have hx := h x (by simp)
    have := ih (fun y hy => h y (by simp [hy]))
    simp only [bytesL, strL, List.map_cons, List.toList_toArray] at this ⊢
    rw [this]
    have e : ((UInt8.ofNat x.toNat).toNat : Int) = x := by
      rw [UInt8.toNat_ofNat']; omega
    rw [e]
theorem strL_size (l : List Int) : (strL l).size = l.length := by simp [strL, ByteArray.size]
theorem strL_bytesL (s : ByteArray) : strL (bytesL s) = s := bytesL_inj (toBytes (bytesL_isB s))
theorem c_impl_long (s : ByteArray) : TT n_impl_long [eS s] [] (eI (if 65536 < s.size then 2 else 0)) [] := by
  refine r_impl_long s ⟨_, c_impl_when _ 2, ?_, rfl⟩
  simp only [decide_eq_true_eq, gt_iff_lt]
  by_cases h : 65536 < s.size
  · rw [if_pos h, if_pos (by omega)]
  · rw [if_neg h, if_neg (by omega)]

/-- The code of what is read as a frame. -/
def frameE (l : List Int) : Int :=
  if l.length < 10 then 16 else if l.take 4 ≠ [80, 76, 67, 49] then 3 else if numZ 4 (l.drop 4) ≠ (l.length : Int) - 10 then 8
  else if numZ 2 (l.drop (l.length - 2)) ≠ sumL 1 (l.take (l.length - 2)) then 9 else 0
def frameS (s : ByteArray) : ByteArray := if frameE (bytesL s) = 0 then s.extract 8 (s.size - 2) else ⟨#[]⟩
@[reducible] def strI (s : ByteArray) (n : Int) : Ent := .tup [(false, [.str s]), (false, [cI n])]
theorem magicA_bytes : bytesL (⟨#[80, 76, 67, 49]⟩ : ByteArray) = [80, 76, 67, 49] := by decide
theorem magic_eq (s : ByteArray) (h : 4 ≤ s.size) : (ByteArray.toList (s.extract (Int.toNat 0) (Int.toNat 4)) == ByteArray.toList (⟨#[80, 76, 67, 49]⟩ : ByteArray)) = decide ((bytesL s).take 4 = [80, 76, 67, 49]) := by
  rw [toList_beq, decide_eq_decide, bytesL_iff, bytes_extract s (by simpa using h), magicA_bytes]; rfl
end Go.Ry
