/- Numbers and lists as texts: Itoa, Join, and the reference's digits. No condition. -/
import Derived.Test.YthpolfpbioebnaaDoorPNum1
import Derived.Test.YthpolfpbioebnaaDoorPStr
import Derived.Test.YthpolfpbioebnaaDoorPTxt0
import Derived.Test.YthpolfpbioebnaaDoorPExt
import Derived.Test.YthpolfpbioebnaaDoorShelf
import Derived.Lib.ItoaLen
import Derived.Lib.Join
set_option linter.unusedVariables false
set_option linter.unusedSimpArgs false
namespace Go.Ry
open Go.Proofs Go.RowKit

theorem c_Itoa (n : Int) (hn : i64 n) : TT n_strconv_Itoa [eI n] [] (eS (itoaB n)) [] := by
  intro w Z L vs hs ha
  obtain ⟨v, rfl, hv⟩ := one_arg ha
  obtain rfl : v = .int .i64 n := hv
  have hg : Tryd.prog.globalNamed "internal/strconv.uint64pow10" = some 5 := by kernel_rfl
  have htab : Lib.TabIs Tryd.prog w "internal/strconv.uint64pow10" .u64 Lib.pow10Tab := by
    obtain ⟨_, cs, e, z, h1, h2⟩ := hs.tab _ (.head _)
    unfold Lib.TabIs World.var?
    rw [hg]
    simp only [Option.bind_some, h1]
    exact congrArg some h2
  refine does_enter Tryd.func49 (c := bodyOf Tryd.f49) (by kernel_rfl) (by kernel_rfl) ?_
  refine (Tryd.strconv_Itoa n hn.1 hn.2 w htab).mono ?_
  rintro e w' ⟨rfl, k, os, rfl⟩
  refine kept_out hs ⟨rfl, rfl, rfl, ?_, fun b hb => .inl ?_⟩ (by rw [itoaB_eq hn]; rfl)
  · simp [Sort.grow, World.drewN]
  · simp only [Sort.grow, World.drewN]
    exact Array.getElem?_append_left hb
theorem c_impl_decimal (n : Int) (hn : i64 n) : TT n_impl_decimal [eI n] [] (eS (itoaB n)) [] := r_impl_decimal n ⟨_, c_Itoa n hn, rfl, rfl⟩

/-- Texts with another between them. -/
def joinB (xs : List ByteArray) (sep : ByteArray) : ByteArray := ⟨(Lib.join (xs.map (·.data.toList)) sep.data.toList).toArray⟩
end Go.Ry
