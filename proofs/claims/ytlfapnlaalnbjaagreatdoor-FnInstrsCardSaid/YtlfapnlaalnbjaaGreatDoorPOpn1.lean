/- The names of operations. No condition. -/
import Derived.Test.YtlfapnlaalnbjaaGreatDoorPNum1
import Derived.Test.YtlfapnlaalnbjaaGreatDoorPStr
import Derived.Test.YtlfapnlaalnbjaaGreatDoorPTxt0
import Derived.Test.YtlfapnlaalnbjaaGreatDoorPTxt1
import Derived.Test.YtlfapnlaalnbjaaGreatDoorPFre
import Derived.Test.YtlfapnlaalnbjaaGreatDoorShelf
import Derived.Lib.Fields
set_option linter.unusedVariables false
set_option linter.unusedSimpArgs false
namespace Go.Ry
open Go.Proofs Go.RowKit

theorem space_at {w : World} {Z : Nat → Prop} {L : List Loc} {os : List Ob} (hs : Sims w Z L os) : Lib.TabIs Tryz.prog w "strings.asciiSpace" .u8 Lib.asciiSpaceTab := by
  have hg : Tryz.prog.globalNamed "strings.asciiSpace" = some 0 := by kernel_rfl
  obtain ⟨_, cs, e, z, h1, h2⟩ := hs.tab _ (.tail _ (.head _))
  unfold Lib.TabIs World.var?
  rw [hg]
  simp only [Option.bind_some, h1]
  exact congrArg some h2
def fieldsB (s : ByteArray) : List ByteArray := (Lib.fields s.data.toList).map fun l => ⟨l.toArray⟩
theorem c_Fields (s : ByteArray) (h : s.size ≤ 1048576) (has : ∀ b ∈ s.data.toList, b.toNat < 128) (hn : (fieldsB s).length ≤ 1048577) : TT n_strings_Fields [eS s] [] (.one (.row 0)) [.row t_string .str (fieldsB s)] := by
  intro w Z L vs hs ha
  obtain ⟨v, rfl, hv⟩ := one_arg ha
  obtain rfl : v = .string s := hv
  obtain rfl : L = [] := List.length_eq_zero_iff.1 hs.len
  refine does_enter Tryz.func123 (c := bodyOf Tryz.f123) (by kernel_rfl) (by kernel_rfl) ?_
  refine (Tryz.strings_Fields s w (by omega) (fun j b hj => has b (List.mem_of_getElem? hj)) (space_at hs)).mono ?_
  rintro e w' ⟨rfl, rfl⟩
  have e1 : (Lib.fields s.data.toList).map (fun l => Value.string ⟨l.toArray⟩) = (fieldsB s).map Value.string := by unfold fieldsB; rw [List.map_map]; rfl
  have e2 : (Lib.fields s.data.toList).length = (fieldsB s).length := by unfold fieldsB; rw [List.length_map]
  rw [e1, e2]
  exact fresh_strs hs (fieldsB s) _ hn
@[reducible] def opsB : ByteArray := ⟨#[112, 117, 115, 104, 32, 102, 108, 97, 103, 32, 108, 111, 97, 100, 32, 115, 116, 111, 114, 101, 32, 105, 110, 32, 111, 117, 116, 32, 112, 101, 101, 107, 32, 112, 111, 107, 101, 32, 97, 100, 100, 32, 115, 117, 98, 32, 109, 117, 108, 32, 100, 105, 118, 32, 108, 101, 115, 115, 32, 115, 97, 109, 101, 32, 97, 110, 100, 32, 111, 114, 32, 110, 111, 116, 32, 115, 101, 108, 32, 98, 108, 111, 99, 107, 32, 118, 97, 108, 117, 101, 32, 105, 102, 32, 101, 108, 115, 101, 32, 101, 110, 100, 32, 114, 101, 112, 101, 97, 116, 32, 99, 117, 116, 32, 99, 97, 108, 108]⟩
def namesL : List (List UInt8) := [[112, 117, 115, 104], [102, 108, 97, 103], [108, 111, 97, 100], [115, 116, 111, 114, 101], [105, 110], [111, 117, 116], [112, 101, 101, 107], [112, 111, 107, 101], [97, 100, 100], [115, 117, 98], [109, 117, 108], [100, 105, 118], [108, 101, 115, 115], [115, 97, 109, 101], [97, 110, 100], [111, 114], [110, 111, 116], [115, 101, 108], [98, 108, 111, 99, 107], [118, 97, 108, 117, 101], [105, 102], [101, 108, 115, 101], [101, 110, 100], [114, 101, 112, 101, 97, 116], [99, 117, 116], [99, 97, 108, 108]]
def namesB : List ByteArray := namesL.map fun l => ⟨l.toArray⟩
theorem fields_ops : Lib.fields opsB.data.toList = namesL := by decide +kernel
theorem namesB_len : namesB.length = 26 := rfl
theorem c_impl_opNames : TT n_impl_opNames [] [] (.one (.row 0)) [.row t_string .str namesB] := by
  have e : fieldsB opsB = namesB := by unfold fieldsB namesB; rw [fields_ops]
  have h := c_Fields opsB (by decide) (by decide +kernel) (by rw [e, namesB_len]; decide)
  rw [e] at h
  exact r_impl_opNames ⟨_, h, rfl, rfl⟩
theorem namesB_size : ∀ x ∈ namesB, 1 ≤ x.size ∧ x.size ≤ 6 := by decide +kernel
def nameOf (op : Int) : ByteArray := if isOp op = true then namesB.getD (op - 1).toNat ⟨#[]⟩ else ⟨#[]⟩
theorem nameOf_size (op : Int) : (nameOf op).size ≤ 6 := by
  unfold nameOf
  split
  · rw [List.getD_eq_getElem?_getD]
    cases h : namesB[(op - 1).toNat]? with
    | none => decide
    | some x => exact (namesB_size x (List.mem_of_getElem? h)).2
  · decide
theorem c_impl_OpName (op : Int) : TT n_impl_OpName [eI op] [] (eS (nameOf op)) [] := by
  refine r_impl_OpName op ⟨_, c_impl_isOp op, ifB_cases (fun h => ?_) (fun h => ?_)⟩
  · have h : isOp op = false := by simpa using h
    exact ⟨by simp [nameOf, h], rfl⟩
  · have h : isOp op = true := by simpa using h
    have hr := within_iff.1 (show within op 1 26 = true from h)
    rw [w64 (x := op - 1) (by omega)]
    exact ⟨_, c_impl_opNames, ⟨by omega, by rw [namesB_len]; omega⟩, by simp [nameOf, h], rfl⟩
end Go.Ry
