/-
  No cell of these rows narrows 'for every input' (looked for: loops, veiled, ifaces, maps, wideKeys, modest, calm, conditions, laid).
  DERIVED. THE GIVEN ROWS OF THIS SEAT. 4 by the template 'for every input the law returns true; each argument reads behind the call as it read before'; 0 by the template 'total and deterministic' (their statements: YtonmkhdbgofbpaaGreatTotals.lean).
  GIVEN WITH THE SEED: the statements are not yours to turn. If you find one false, say at which input.
  Laid BY PROGRAM, IN A SANDBOX (cutbox-rows.mjs): the forced cells as the released guide's own fill.sh prints them over the translation df2103b6fcc8b20f… (all of the seat's roots in one cut). By AI agents, Wed Nov 11 2026. No macro, syntax, notation, axiom, sorry.
-/
import Derived.Test.YtonmkhdbgofbpaaGreatChecked
import GoSem.Claim
import GoSem.ClaimJoined
import GoSem.ClaimMapViews
import Derived.JoinedTies
import Derived.KernelRfl
namespace Go.Proofs.YtonmkhdbgofbpaaGreat
/- THE CELL 'sum', in the pinned program and in every row, IS THE sha256 OF THE DUMP (.gsa) THAT YtonmkhdbgofbpaaGreatProg.lean LOADS. Nothing in Lean hashes anything: it is a label: what it is worth is what the hold of that sum in a sandbox is worth. -/
noncomputable def Tryz.pinned : Pinned := { name := "ytonmkhdbgofbpaagreat", sum := "df2103b6fcc8b20faafadbd0f8b10b67098b624b98324bab0f6c99e09332ce37", checked := Tryz.checked }
namespace Rows
def none {H : Type} : Left H := { results := [], args := [] }

/-- 'laws.FnExactBoundsOf': WHATEVER THE INPUT: true; the input reads as it did. -/
def fnExactBoundsOfSpec : ChangeSpec := { name := "fnExactBoundsOf", fn := fun _ => fun
  | [d] => { results := [.lit (.bool true)], args := [d] }
  | _ => none }
def fnExactBoundsOfRow : OpenClaim := { program := "ytonmkhdbgofbpaagreat", sum := "df2103b6fcc8b20faafadbd0f8b10b67098b624b98324bab0f6c99e09332ce37", func := "loop.example/g00684/laws.FnExactBoundsOf", spec := "fnExactBoundsOf", unfollowed := true, recurses := true, apart := false }
def FnExactBoundsOfSaid : Prop := fnExactBoundsOfRow.holds Tryz.pinned (OpenSpec.ofChange fnExactBoundsOfSpec)

/-- ITS FALSE NEIGHBOUR: 'it returns false'. Refute it at one input. -/
def fnExactBoundsOfWrong : ChangeSpec := { name := "fnExactBoundsOf", fn := fun _ => fun
  | [d] => { results := [.lit (.bool false)], args := [d] }
  | _ => none }
def FnExactBoundsOfWrongFalsely : Prop := fnExactBoundsOfRow.holds Tryz.pinned (OpenSpec.ofChange fnExactBoundsOfWrong)

/-- 'laws.FnExactAdmitProgram': WHATEVER THE INPUT: true; the input reads as it did. -/
def fnExactAdmitProgramSpec : ChangeSpec := { name := "fnExactAdmitProgram", fn := fun _ => fun
  | [d] => { results := [.lit (.bool true)], args := [d] }
  | _ => none }
def fnExactAdmitProgramRow : OpenClaim := { program := "ytonmkhdbgofbpaagreat", sum := "df2103b6fcc8b20faafadbd0f8b10b67098b624b98324bab0f6c99e09332ce37", func := "loop.example/g00684/laws.FnExactAdmitProgram", spec := "fnExactAdmitProgram", unfollowed := true, recurses := true, apart := false }
def FnExactAdmitProgramSaid : Prop := fnExactAdmitProgramRow.holds Tryz.pinned (OpenSpec.ofChange fnExactAdmitProgramSpec)

/-- ITS FALSE NEIGHBOUR: 'it returns false'. Refute it at one input. -/
def fnExactAdmitProgramWrong : ChangeSpec := { name := "fnExactAdmitProgram", fn := fun _ => fun
  | [d] => { results := [.lit (.bool false)], args := [d] }
  | _ => none }
def FnExactAdmitProgramWrongFalsely : Prop := fnExactAdmitProgramRow.holds Tryz.pinned (OpenSpec.ofChange fnExactAdmitProgramWrong)

/-- 'laws.FnFlat': WHATEVER THE INPUT: true; the input reads as it did. -/
def fnFlatSpec : ChangeSpec := { name := "fnFlat", fn := fun _ => fun
  | [d1, d2] => { results := [.lit (.bool true)], args := [d1, d2] }
  | _ => none }
def fnFlatRow : OpenClaim := { program := "ytonmkhdbgofbpaagreat", sum := "df2103b6fcc8b20faafadbd0f8b10b67098b624b98324bab0f6c99e09332ce37", func := "loop.example/g00684/laws.FnFlat", spec := "fnFlat", unfollowed := true, recurses := true, apart := false }
def FnFlatSaid : Prop := fnFlatRow.holds Tryz.pinned (OpenSpec.ofChange fnFlatSpec)

/-- ITS FALSE NEIGHBOUR: 'it returns false'. Refute it at one input. -/
def fnFlatWrong : ChangeSpec := { name := "fnFlat", fn := fun _ => fun
  | [d1, d2] => { results := [.lit (.bool false)], args := [d1, d2] }
  | _ => none }
def FnFlatWrongFalsely : Prop := fnFlatRow.holds Tryz.pinned (OpenSpec.ofChange fnFlatWrong)

/-- 'laws.FnExactTreeRun': WHATEVER THE INPUT: true; the input reads as it did. -/
def fnExactTreeRunSpec : ChangeSpec := { name := "fnExactTreeRun", fn := fun _ => fun
  | [d1, d2, d3, d4] => { results := [.lit (.bool true)], args := [d1, d2, d3, d4] }
  | _ => none }
def fnExactTreeRunRow : OpenClaim := { program := "ytonmkhdbgofbpaagreat", sum := "df2103b6fcc8b20faafadbd0f8b10b67098b624b98324bab0f6c99e09332ce37", func := "loop.example/g00684/laws.FnExactTreeRun", spec := "fnExactTreeRun", unfollowed := true, recurses := true, apart := false }
def FnExactTreeRunSaid : Prop := fnExactTreeRunRow.holds Tryz.pinned (OpenSpec.ofChange fnExactTreeRunSpec)

/-- ITS FALSE NEIGHBOUR: 'it returns false'. Refute it at one input. -/
def fnExactTreeRunWrong : ChangeSpec := { name := "fnExactTreeRun", fn := fun _ => fun
  | [d1, d2, d3, d4] => { results := [.lit (.bool false)], args := [d1, d2, d3, d4] }
  | _ => none }
def FnExactTreeRunWrongFalsely : Prop := fnExactTreeRunRow.holds Tryz.pinned (OpenSpec.ofChange fnExactTreeRunWrong)

/- THE SECOND FORM. 'bulk': how many values and letters a reading holds, each counted each time it is reached (what is shared counts as often as it is met; a slice's spare places count too). A statement '..UptoSaid' is the law's where the arguments, and the package variables that the reading takes, are together of bulk at most 1048576: NARROWER than '..Said'. Prove '..Said' where nothing that the law and all that it calls make is longer than what came in: it says more and counts as full. Else prove '..UptoSaid'. A law counts once. -/
mutual
def uptoBulk {H : Type} : DataW H → Nat
  | .lit (.string bytes) => bytes.length + 1
  | .lit _ => 1
  | .nil => 1
  | .ptr d => uptoBulk d + 1
  | .slice elems spare => uptoBulkAll elems + uptoBulkAll spare + 1
  | .agg parts => uptoBulkAll parts + 1
  | .iface _ d => uptoBulk d + 1
  | .map entries => uptoBulkEntries entries + 1
  | .held _ => 1
def uptoBulkAll {H : Type} : List (DataW H) → Nat
  | [] => 0
  | d :: r => uptoBulk d + uptoBulkAll r
def uptoBulkEntries {H : Type} : List (Lit × DataW H) → Nat
  | [] => 0
  | x :: r => uptoBulkEntry x + uptoBulkEntries r
def uptoBulkEntry {H : Type} : Lit × DataW H → Nat
  | (.string bytes, d) => bytes.length + uptoBulk d + 1
  | (_, d) => uptoBulk d + 1
 end
def uptoSmall : (H : Type) → List (DataW H) → Bool := fun _ ds => decide (uptoBulkAll ds ≤ 1048576)
def OpenSpec.upto (s : _root_.Go.ChangeSpec) : _root_.Go.OpenSpec := { _root_.Go.OpenSpec.ofChange s with cond := some uptoSmall }

/-- 'laws.FnExactBoundsOf', WHERE WHAT IT READS IS OF BULK AT MOST 1048576: true; the input reads as it did. -/
def fnExactBoundsOfUptoRow : OpenClaim := { program := "ytonmkhdbgofbpaagreat", sum := "df2103b6fcc8b20faafadbd0f8b10b67098b624b98324bab0f6c99e09332ce37", func := "loop.example/g00684/laws.FnExactBoundsOf", spec := "fnExactBoundsOf", unfollowed := true, recurses := true, apart := false, narrowed := true }
def FnExactBoundsOfUptoSaid : Prop := fnExactBoundsOfUptoRow.holds Tryz.pinned (OpenSpec.upto fnExactBoundsOfSpec)

/-- 'laws.FnExactAdmitProgram', WHERE WHAT IT READS IS OF BULK AT MOST 1048576: true; the input reads as it did. -/
def fnExactAdmitProgramUptoRow : OpenClaim := { program := "ytonmkhdbgofbpaagreat", sum := "df2103b6fcc8b20faafadbd0f8b10b67098b624b98324bab0f6c99e09332ce37", func := "loop.example/g00684/laws.FnExactAdmitProgram", spec := "fnExactAdmitProgram", unfollowed := true, recurses := true, apart := false, narrowed := true }
def FnExactAdmitProgramUptoSaid : Prop := fnExactAdmitProgramUptoRow.holds Tryz.pinned (OpenSpec.upto fnExactAdmitProgramSpec)

/-- 'laws.FnFlat', WHERE WHAT IT READS IS OF BULK AT MOST 1048576: true; the input reads as it did. -/
def fnFlatUptoRow : OpenClaim := { program := "ytonmkhdbgofbpaagreat", sum := "df2103b6fcc8b20faafadbd0f8b10b67098b624b98324bab0f6c99e09332ce37", func := "loop.example/g00684/laws.FnFlat", spec := "fnFlat", unfollowed := true, recurses := true, apart := false, narrowed := true }
def FnFlatUptoSaid : Prop := fnFlatUptoRow.holds Tryz.pinned (OpenSpec.upto fnFlatSpec)

/-- 'laws.FnExactTreeRun', WHERE WHAT IT READS IS OF BULK AT MOST 1048576: true; the input reads as it did. -/
def fnExactTreeRunUptoRow : OpenClaim := { program := "ytonmkhdbgofbpaagreat", sum := "df2103b6fcc8b20faafadbd0f8b10b67098b624b98324bab0f6c99e09332ce37", func := "loop.example/g00684/laws.FnExactTreeRun", spec := "fnExactTreeRun", unfollowed := true, recurses := true, apart := false, narrowed := true }
def FnExactTreeRunUptoSaid : Prop := fnExactTreeRunUptoRow.holds Tryz.pinned (OpenSpec.upto fnExactTreeRunSpec)

end Rows
end Go.Proofs.YtonmkhdbgofbpaaGreat
