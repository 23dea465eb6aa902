/-
  No cell of these rows narrows 'for every input' (looked for: loops, veiled, ifaces, maps, wideKeys, modest, calm, conditions, laid).
  DERIVED. THE GIVEN ROWS OF THIS SEAT. 3 by the template 'for every input the law returns true; each argument reads behind the call as it read before'; 0 by the template 'total and deterministic' (their statements: YtkgefledbigklaaGreatTotals.lean).
  GIVEN WITH THE SEED: the statements are not yours to turn. If you find one false, say at which input.
  Laid BY PROGRAM, IN A SANDBOX (cutbox-rows.mjs): the forced cells as the released guide's own fill.sh prints them over the translation 5cdd7e4a80e4f3dc… (all of the seat's roots in one cut). By AI agents, Wed Nov 11 2026. No macro, syntax, notation, axiom, sorry.
-/
import Derived.Test.YtkgefledbigklaaGreatChecked
import GoSem.Claim
import GoSem.ClaimJoined
import GoSem.ClaimMapViews
import Derived.JoinedTies
import Derived.KernelRfl
namespace Go.Proofs.YtkgefledbigklaaGreat
/- THE CELL 'sum', in the pinned program and in every row, IS THE sha256 OF THE DUMP (.gsa) THAT YtkgefledbigklaaGreatProg.lean LOADS. Nothing in Lean hashes anything: it is a label: what it is worth is what the hold of that sum in a sandbox is worth. -/
noncomputable def Tryz.pinned : Pinned := { name := "ytkgefledbigklaagreat", sum := "5cdd7e4a80e4f3dc58ec52e70692976f2852aa9a62bd06b3033287f1665a399b", checked := Tryz.checked }
namespace Rows
def none {H : Type} : Left H := { results := [], args := [] }

/-- 'laws.FnExactPlcOK': WHATEVER THE INPUT: true; the input reads as it did. -/
def fnExactPlcOKSpec : ChangeSpec := { name := "fnExactPlcOK", fn := fun _ => fun
  | [d] => { results := [.lit (.bool true)], args := [d] }
  | _ => none }
def fnExactPlcOKRow : OpenClaim := { program := "ytkgefledbigklaagreat", sum := "5cdd7e4a80e4f3dc58ec52e70692976f2852aa9a62bd06b3033287f1665a399b", func := "loop.example/g00684/laws.FnExactPlcOK", spec := "fnExactPlcOK", unfollowed := true, recurses := true, apart := false }
def FnExactPlcOKSaid : Prop := fnExactPlcOKRow.holds Tryz.pinned (OpenSpec.ofChange fnExactPlcOKSpec)

/-- ITS FALSE NEIGHBOUR: 'it returns false'. Refute it at one input. -/
def fnExactPlcOKWrong : ChangeSpec := { name := "fnExactPlcOK", fn := fun _ => fun
  | [d] => { results := [.lit (.bool false)], args := [d] }
  | _ => none }
def FnExactPlcOKWrongFalsely : Prop := fnExactPlcOKRow.holds Tryz.pinned (OpenSpec.ofChange fnExactPlcOKWrong)

/-- 'laws.FnExactWithinBounds': WHATEVER THE INPUT: true; the input reads as it did. -/
def fnExactWithinBoundsSpec : ChangeSpec := { name := "fnExactWithinBounds", fn := fun _ => fun
  | [d] => { results := [.lit (.bool true)], args := [d] }
  | _ => none }
def fnExactWithinBoundsRow : OpenClaim := { program := "ytkgefledbigklaagreat", sum := "5cdd7e4a80e4f3dc58ec52e70692976f2852aa9a62bd06b3033287f1665a399b", func := "loop.example/g00684/laws.FnExactWithinBounds", spec := "fnExactWithinBounds", unfollowed := true, recurses := true, apart := false }
def FnExactWithinBoundsSaid : Prop := fnExactWithinBoundsRow.holds Tryz.pinned (OpenSpec.ofChange fnExactWithinBoundsSpec)

/-- ITS FALSE NEIGHBOUR: 'it returns false'. Refute it at one input. -/
def fnExactWithinBoundsWrong : ChangeSpec := { name := "fnExactWithinBounds", fn := fun _ => fun
  | [d] => { results := [.lit (.bool false)], args := [d] }
  | _ => none }
def FnExactWithinBoundsWrongFalsely : Prop := fnExactWithinBoundsRow.holds Tryz.pinned (OpenSpec.ofChange fnExactWithinBoundsWrong)

/-- 'laws.FnExactBalanced': WHATEVER THE INPUT: true; the input reads as it did. -/
def fnExactBalancedSpec : ChangeSpec := { name := "fnExactBalanced", fn := fun _ => fun
  | [d] => { results := [.lit (.bool true)], args := [d] }
  | _ => none }
def fnExactBalancedRow : OpenClaim := { program := "ytkgefledbigklaagreat", sum := "5cdd7e4a80e4f3dc58ec52e70692976f2852aa9a62bd06b3033287f1665a399b", func := "loop.example/g00684/laws.FnExactBalanced", spec := "fnExactBalanced", unfollowed := true, recurses := true, apart := false }
def FnExactBalancedSaid : Prop := fnExactBalancedRow.holds Tryz.pinned (OpenSpec.ofChange fnExactBalancedSpec)

/-- ITS FALSE NEIGHBOUR: 'it returns false'. Refute it at one input. -/
def fnExactBalancedWrong : ChangeSpec := { name := "fnExactBalanced", fn := fun _ => fun
  | [d] => { results := [.lit (.bool false)], args := [d] }
  | _ => none }
def FnExactBalancedWrongFalsely : Prop := fnExactBalancedRow.holds Tryz.pinned (OpenSpec.ofChange fnExactBalancedWrong)

/- THE SECOND FORM. 'bulk': how many values and letters a reading holds, each counted each time it is reached (what is shared counts as often as it is met; a slice's spare places count too). A statement '..UptoSaid' is the law's where the arguments, and the package variables that the reading takes, are together of bulk at most 1048576: NARROWER than '..Said'. Prove '..Said' where nothing that the law and all that it calls make is longer than what came in: it says more and counts as full. Else prove '..UptoSaid'. A law counts once. -/
mutual
def uptoBulk {H : Type} : DataW H → Nat
  | .lit (.string bytes) => bytes.length + 1
  | .lit _ => 1
  | .nil => 1
  | .ptr d => uptoBulk d + 1
  | .slice elems spare => uptoBulkAll elems + uptoBulkAll spare + 1
  | .agg parts => uptoBulkAll parts + 1
  | .iface _ d => uptoBulk d + 1
  | .map entries => uptoBulkEntries entries + 1
  | .held _ => 1
def uptoBulkAll {H : Type} : List (DataW H) → Nat
  | [] => 0
  | d :: r => uptoBulk d + uptoBulkAll r
def uptoBulkEntries {H : Type} : List (Lit × DataW H) → Nat
  | [] => 0
  | x :: r => uptoBulkEntry x + uptoBulkEntries r
def uptoBulkEntry {H : Type} : Lit × DataW H → Nat
  | (.string bytes, d) => bytes.length + uptoBulk d + 1
  | (_, d) => uptoBulk d + 1
 end
def uptoSmall : (H : Type) → List (DataW H) → Bool := fun _ ds => decide (uptoBulkAll ds ≤ 1048576)
def OpenSpec.upto (s : _root_.Go.ChangeSpec) : _root_.Go.OpenSpec := { _root_.Go.OpenSpec.ofChange s with cond := some uptoSmall }

/-- 'laws.FnExactPlcOK', WHERE WHAT IT READS IS OF BULK AT MOST 1048576: true; the input reads as it did. -/
def fnExactPlcOKUptoRow : OpenClaim := { program := "ytkgefledbigklaagreat", sum := "5cdd7e4a80e4f3dc58ec52e70692976f2852aa9a62bd06b3033287f1665a399b", func := "loop.example/g00684/laws.FnExactPlcOK", spec := "fnExactPlcOK", unfollowed := true, recurses := true, apart := false, narrowed := true }
def FnExactPlcOKUptoSaid : Prop := fnExactPlcOKUptoRow.holds Tryz.pinned (OpenSpec.upto fnExactPlcOKSpec)

/-- 'laws.FnExactWithinBounds', WHERE WHAT IT READS IS OF BULK AT MOST 1048576: true; the input reads as it did. -/
def fnExactWithinBoundsUptoRow : OpenClaim := { program := "ytkgefledbigklaagreat", sum := "5cdd7e4a80e4f3dc58ec52e70692976f2852aa9a62bd06b3033287f1665a399b", func := "loop.example/g00684/laws.FnExactWithinBounds", spec := "fnExactWithinBounds", unfollowed := true, recurses := true, apart := false, narrowed := true }
def FnExactWithinBoundsUptoSaid : Prop := fnExactWithinBoundsUptoRow.holds Tryz.pinned (OpenSpec.upto fnExactWithinBoundsSpec)

/-- 'laws.FnExactBalanced', WHERE WHAT IT READS IS OF BULK AT MOST 1048576: true; the input reads as it did. -/
def fnExactBalancedUptoRow : OpenClaim := { program := "ytkgefledbigklaagreat", sum := "5cdd7e4a80e4f3dc58ec52e70692976f2852aa9a62bd06b3033287f1665a399b", func := "loop.example/g00684/laws.FnExactBalanced", spec := "fnExactBalanced", unfollowed := true, recurses := true, apart := false, narrowed := true }
def FnExactBalancedUptoSaid : Prop := fnExactBalancedUptoRow.holds Tryz.pinned (OpenSpec.upto fnExactBalancedSpec)

end Rows
end Go.Proofs.YtkgefledbigklaaGreat
