/- The law of ReadCode: it returns true. No condition. -/
import Derived.Test.YtnnhfeopdhnlhaaPCode2
set_option linter.unusedVariables false
set_option linter.unusedSimpArgs false
namespace Go.Ry
variable {C : Calls_}

@[reducible] def insT : Ty := .pair (.int .i64) (.pair (.int .i64) .unit)
def markIns (n : Int) (r : Ins) : Ins := (List.range r.length).map fun j : Nat => (n + 2 * (j : Int), (n + 2 * (j : Int) + 1, ()))
theorem step1_len {rec : List Int → Ins → Int × Ins} {b a : Int} {l : List Int} {out : Ins} (h : ∀ l o, o.length ≤ 40 → (rec l o).2.length ≤ 40) : (step1 rec b a l out).2.length ≤ 40 := by
  unfold step1
  split
  · split
    · simp
    · exact h _ _ (by simp; omega)
  · simp
theorem parse_len : ∀ (n : Nat) (l : List Int) (out : Ins), out.length ≤ 40 → (parse n l out).2.length ≤ 40
  | 0, l, out, h => h
  | n + 1, [], out, h => h
  | n + 1, b :: l, out, h => by
    simp only [parse]
    split
    · split
      · split
        · simp
        · exact step1_len fun l o ho => parse_len n l o ho
      · exact step1_len fun l o ho => parse_len n l o ho
    · simp
theorem readR_len (s : ByteArray) : (readR s).2.length ≤ 40 := by
  unfold readR
  split
  · simp
  · exact parse_len _ _ _ (by simp)
end Go.Ry
