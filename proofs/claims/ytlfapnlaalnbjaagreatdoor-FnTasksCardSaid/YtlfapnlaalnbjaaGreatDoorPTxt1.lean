/- Numbers and lists as texts: Itoa, Join, and the reference's digits. No condition. -/
import Derived.Test.YtlfapnlaalnbjaaGreatDoorPNum1
import Derived.Test.YtlfapnlaalnbjaaGreatDoorPStr
import Derived.Test.YtlfapnlaalnbjaaGreatDoorPTxt0
import Derived.Test.YtlfapnlaalnbjaaGreatDoorPExt
import Derived.Test.YtlfapnlaalnbjaaGreatDoorShelf
import Derived.Lib.ItoaLen
import Derived.Lib.Join
set_option linter.unusedVariables false
set_option linter.unusedSimpArgs false
namespace Go.Ry
open Go.Proofs Go.RowKit

theorem c_Itoa (n : Int) (hn : i64 n) : TT n_strconv_Itoa [eI n] [] (eS (itoaB n)) [] := by
  intro w Z L vs hs ha
  obtain ⟨v, rfl, hv⟩ := one_arg ha
  obtain rfl : v = .int .i64 n := hv
  have hg : Tryz.prog.globalNamed "internal/strconv.uint64pow10" = some 5 := by kernel_rfl
  have htab : Lib.TabIs Tryz.prog w "internal/strconv.uint64pow10" .u64 Lib.pow10Tab := by
    obtain ⟨_, cs, e, z, h1, h2⟩ := hs.tab _ (.head _)
    unfold Lib.TabIs World.var?
    rw [hg]
    simp only [Option.bind_some, h1]
    exact congrArg some h2
  refine does_enter Tryz.func132 (c := bodyOf Tryz.f132) (by kernel_rfl) (by kernel_rfl) ?_
  refine (Tryz.strconv_Itoa n hn.1 hn.2 w htab).mono ?_
  rintro e w' ⟨rfl, k, os, rfl⟩
  refine kept_out hs ⟨rfl, rfl, rfl, ?_, fun b hb => .inl ?_⟩ (by rw [itoaB_eq hn]; rfl)
  · simp [Sort.grow, World.drewN]
  · simp only [Sort.grow, World.drewN]
    exact Array.getElem?_append_left hb
theorem c_impl_decimal (n : Int) (hn : i64 n) : TT n_impl_decimal [eI n] [] (eS (itoaB n)) [] := r_impl_decimal n ⟨_, c_Itoa n hn, rfl, rfl⟩

/-- Texts with another between them. -/
def joinB (xs : List ByteArray) (sep : ByteArray) : ByteArray := ⟨(Lib.join (xs.map (·.data.toList)) sep.data.toList).toArray⟩
theorem c_Join (xs : List ByteArray) (sep : ByteArray) (h : (Lib.join (xs.map (·.data.toList)) sep.data.toList).length ≤ 140737488355328) (hl : xs.length ≤ 1048576) :
    TT n_strings_Join [.one (.sl .str xs), eS sep] [] (eS (joinB xs sep)) [] := by
  intro w Z L vs hs ha
  obtain ⟨v, u, rfl, hv, hu⟩ := two_args ha
  obtain rfl : u = .string sep := hu
  obtain ⟨a, n, c, e1, rfl, hc, h0, hat⟩ := (show Rd w Z (.slice .str) xs [v] from hv)
  simp only [List.cons.injEq, and_true] at e1
  subst e1
  refine does_enter Tryz.func133 (c := bodyOf Tryz.f133) (by kernel_rfl) (by kernel_rfl) ?_
  cases xs with
  | nil =>
    refine (Tryz.strings_Join_none a c sep w).mono ?_
    rintro e w' ⟨rfl, rfl⟩
    exact kept_out hs (Keeps.refl _ _) rfl
  | cons x xs =>
    cases a with
    | none => simp at h0
    | some ad =>
      obtain ⟨hsp, hz, _⟩ := hat ad rfl 0 x rfl
      obtain ⟨bk, o, sp⟩ := ad
      simp only at hsp hz
      subst hsp
      refine (Tryz.strings_Join bk o c (x :: xs) sep w (fun j y hj => ?_) (hs.zin bk hz) (by omega) hc h).mono ?_
      · obtain ⟨_, _, es, h1, h2, h3⟩ := hat _ rfl j y hj
        obtain rfl : es = [.string y] := h3
        have := h2 0 _ rfl
        simpa [Ty.size] using this
      · rintro e w' ⟨rfl, hb⟩
        exact kept_out hs (keeps_below hb) rfl

end Go.Ry
