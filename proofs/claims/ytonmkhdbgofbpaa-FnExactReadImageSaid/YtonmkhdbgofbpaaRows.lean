/-
  No cell of these rows narrows 'for every input' (looked for: loops, veiled, ifaces, maps, wideKeys, modest, calm, conditions, laid).
  DERIVED. THE GIVEN ROWS OF THIS SEAT. 5 by the template 'for every input the law returns true; each argument reads behind the call as it read before'; 0 by the template 'total and deterministic' (their statements: YtonmkhdbgofbpaaTotals.lean).
  GIVEN WITH THE SEED: the statements are not yours to turn. If you find one false, say at which input.
  Laid BY PROGRAM, IN A SANDBOX (cutbox-rows.mjs): the forced cells as the released guide's own fill.sh prints them over the translation b4b21182f65ce844… (all of the seat's roots in one cut). By AI agents, Wed Nov 11 2026. No macro, syntax, notation, axiom, sorry.
-/
import Derived.Test.YtonmkhdbgofbpaaChecked
import GoSem.Claim
import GoSem.ClaimJoined
import GoSem.ClaimMapViews
import Derived.JoinedTies
import Derived.KernelRfl
namespace Go.Proofs.Ytonmkhdbgofbpaa
/- THE CELL 'sum', in the pinned program and in every row, IS THE sha256 OF THE DUMP (.gsa) THAT YtonmkhdbgofbpaaProg.lean LOADS. Nothing in Lean hashes anything: it is a label: what it is worth is what the hold of that sum in a sandbox is worth. -/
noncomputable def Try.pinned : Pinned := { name := "ytonmkhdbgofbpaa", sum := "b4b21182f65ce844cfd49f5cc2ab2849f54c1c3385ed5498fd42e06bb7c26cf5", checked := Try.checked }
namespace Rows
def none {H : Type} : Left H := { results := [], args := [] }

/-- 'laws.FnExactInOrder': WHATEVER THE INPUT: true; the input reads as it did. -/
def fnExactInOrderSpec : ChangeSpec := { name := "fnExactInOrder", fn := fun _ => fun
  | [d] => { results := [.lit (.bool true)], args := [d] }
  | _ => none }
def fnExactInOrderRow : OpenClaim := { program := "ytonmkhdbgofbpaa", sum := "b4b21182f65ce844cfd49f5cc2ab2849f54c1c3385ed5498fd42e06bb7c26cf5", func := "loop.example/g00684/laws.FnExactInOrder", spec := "fnExactInOrder", apart := false }
def FnExactInOrderSaid : Prop := fnExactInOrderRow.holds Try.pinned (OpenSpec.ofChange fnExactInOrderSpec)

/-- ITS FALSE NEIGHBOUR: 'it returns false'. Refute it at one input. -/
def fnExactInOrderWrong : ChangeSpec := { name := "fnExactInOrder", fn := fun _ => fun
  | [d] => { results := [.lit (.bool false)], args := [d] }
  | _ => none }
def FnExactInOrderWrongFalsely : Prop := fnExactInOrderRow.holds Try.pinned (OpenSpec.ofChange fnExactInOrderWrong)

/-- 'laws.FnCode': WHATEVER THE INPUT: true; the input reads as it did. -/
def fnCodeSpec : ChangeSpec := { name := "fnCode", fn := fun _ => fun
  | [d1, d2] => { results := [.lit (.bool true)], args := [d1, d2] }
  | _ => none }
def fnCodeRow : OpenClaim := { program := "ytonmkhdbgofbpaa", sum := "b4b21182f65ce844cfd49f5cc2ab2849f54c1c3385ed5498fd42e06bb7c26cf5", func := "loop.example/g00684/laws.FnCode", spec := "fnCode", inPlace := ["internal/abi.NoEscape"], unfollowed := true, recurses := true, apart := false }
def FnCodeSaid : Prop := fnCodeRow.holds Try.pinned (OpenSpec.ofChange fnCodeSpec)

/-- ITS FALSE NEIGHBOUR: 'it returns false'. Refute it at one input. -/
def fnCodeWrong : ChangeSpec := { name := "fnCode", fn := fun _ => fun
  | [d1, d2] => { results := [.lit (.bool false)], args := [d1, d2] }
  | _ => none }
def FnCodeWrongFalsely : Prop := fnCodeRow.holds Try.pinned (OpenSpec.ofChange fnCodeWrong)

/-- 'laws.FnOps': WHATEVER THE INPUT: true; the input reads as it did. -/
def fnOpsSpec : ChangeSpec := { name := "fnOps", fn := fun _ => fun
  | [d1, d2] => { results := [.lit (.bool true)], args := [d1, d2] }
  | _ => none }
def fnOpsRow : OpenClaim := { program := "ytonmkhdbgofbpaa", sum := "b4b21182f65ce844cfd49f5cc2ab2849f54c1c3385ed5498fd42e06bb7c26cf5", func := "loop.example/g00684/laws.FnOps", spec := "fnOps", unfollowed := true, recurses := true, apart := false }
def FnOpsSaid : Prop := fnOpsRow.holds Try.pinned (OpenSpec.ofChange fnOpsSpec)

/-- ITS FALSE NEIGHBOUR: 'it returns false'. Refute it at one input. -/
def fnOpsWrong : ChangeSpec := { name := "fnOps", fn := fun _ => fun
  | [d1, d2] => { results := [.lit (.bool false)], args := [d1, d2] }
  | _ => none }
def FnOpsWrongFalsely : Prop := fnOpsRow.holds Try.pinned (OpenSpec.ofChange fnOpsWrong)

/-- 'laws.FnExactReadImage': WHATEVER THE INPUT: true; the input reads as it did. -/
def fnExactReadImageSpec : ChangeSpec := { name := "fnExactReadImage", fn := fun _ => fun
  | [d] => { results := [.lit (.bool true)], args := [d] }
  | _ => none }
def fnExactReadImageRow : OpenClaim := { program := "ytonmkhdbgofbpaa", sum := "b4b21182f65ce844cfd49f5cc2ab2849f54c1c3385ed5498fd42e06bb7c26cf5", func := "loop.example/g00684/laws.FnExactReadImage", spec := "fnExactReadImage", unfollowed := true, recurses := true, apart := false }
def FnExactReadImageSaid : Prop := fnExactReadImageRow.holds Try.pinned (OpenSpec.ofChange fnExactReadImageSpec)

/-- ITS FALSE NEIGHBOUR: 'it returns false'. Refute it at one input. -/
def fnExactReadImageWrong : ChangeSpec := { name := "fnExactReadImage", fn := fun _ => fun
  | [d] => { results := [.lit (.bool false)], args := [d] }
  | _ => none }
def FnExactReadImageWrongFalsely : Prop := fnExactReadImageRow.holds Try.pinned (OpenSpec.ofChange fnExactReadImageWrong)

/-- 'laws.FnVerify': WHATEVER THE INPUT: true; the input reads as it did. -/
def fnVerifySpec : ChangeSpec := { name := "fnVerify", fn := fun _ => fun
  | [d1, d2] => { results := [.lit (.bool true)], args := [d1, d2] }
  | _ => none }
def fnVerifyRow : OpenClaim := { program := "ytonmkhdbgofbpaa", sum := "b4b21182f65ce844cfd49f5cc2ab2849f54c1c3385ed5498fd42e06bb7c26cf5", func := "loop.example/g00684/laws.FnVerify", spec := "fnVerify", unfollowed := true, recurses := true, apart := false }
def FnVerifySaid : Prop := fnVerifyRow.holds Try.pinned (OpenSpec.ofChange fnVerifySpec)

/-- ITS FALSE NEIGHBOUR: 'it returns false'. Refute it at one input. -/
def fnVerifyWrong : ChangeSpec := { name := "fnVerify", fn := fun _ => fun
  | [d1, d2] => { results := [.lit (.bool false)], args := [d1, d2] }
  | _ => none }
def FnVerifyWrongFalsely : Prop := fnVerifyRow.holds Try.pinned (OpenSpec.ofChange fnVerifyWrong)

/- THE SECOND FORM. 'bulk': how many values and letters a reading holds, each counted each time it is reached (what is shared counts as often as it is met; a slice's spare places count too). A statement '..UptoSaid' is the law's where the arguments, and the package variables that the reading takes, are together of bulk at most 1048576: NARROWER than '..Said'. Prove '..Said' where nothing that the law and all that it calls make is longer than what came in: it says more and counts as full. Else prove '..UptoSaid'. A law counts once. -/
mutual
def uptoBulk {H : Type} : DataW H → Nat
  | .lit (.string bytes) => bytes.length + 1
  | .lit _ => 1
  | .nil => 1
  | .ptr d => uptoBulk d + 1
  | .slice elems spare => uptoBulkAll elems + uptoBulkAll spare + 1
  | .agg parts => uptoBulkAll parts + 1
  | .iface _ d => uptoBulk d + 1
  | .map entries => uptoBulkEntries entries + 1
  | .held _ => 1
def uptoBulkAll {H : Type} : List (DataW H) → Nat
  | [] => 0
  | d :: r => uptoBulk d + uptoBulkAll r
def uptoBulkEntries {H : Type} : List (Lit × DataW H) → Nat
  | [] => 0
  | x :: r => uptoBulkEntry x + uptoBulkEntries r
def uptoBulkEntry {H : Type} : Lit × DataW H → Nat
  | (.string bytes, d) => bytes.length + uptoBulk d + 1
  | (_, d) => uptoBulk d + 1
 end
def uptoSmall : (H : Type) → List (DataW H) → Bool := fun _ ds => decide (uptoBulkAll ds ≤ 1048576)
def OpenSpec.upto (s : _root_.Go.ChangeSpec) : _root_.Go.OpenSpec := { _root_.Go.OpenSpec.ofChange s with cond := some uptoSmall }

/-- 'laws.FnExactInOrder', WHERE WHAT IT READS IS OF BULK AT MOST 1048576: true; the input reads as it did. -/
def fnExactInOrderUptoRow : OpenClaim := { program := "ytonmkhdbgofbpaa", sum := "b4b21182f65ce844cfd49f5cc2ab2849f54c1c3385ed5498fd42e06bb7c26cf5", func := "loop.example/g00684/laws.FnExactInOrder", spec := "fnExactInOrder", apart := false, narrowed := true }
def FnExactInOrderUptoSaid : Prop := fnExactInOrderUptoRow.holds Try.pinned (OpenSpec.upto fnExactInOrderSpec)

/-- 'laws.FnCode', WHERE WHAT IT READS IS OF BULK AT MOST 1048576: true; the input reads as it did. -/
def fnCodeUptoRow : OpenClaim := { program := "ytonmkhdbgofbpaa", sum := "b4b21182f65ce844cfd49f5cc2ab2849f54c1c3385ed5498fd42e06bb7c26cf5", func := "loop.example/g00684/laws.FnCode", spec := "fnCode", inPlace := ["internal/abi.NoEscape"], unfollowed := true, recurses := true, apart := false, narrowed := true }
def FnCodeUptoSaid : Prop := fnCodeUptoRow.holds Try.pinned (OpenSpec.upto fnCodeSpec)

/-- 'laws.FnOps', WHERE WHAT IT READS IS OF BULK AT MOST 1048576: true; the input reads as it did. -/
def fnOpsUptoRow : OpenClaim := { program := "ytonmkhdbgofbpaa", sum := "b4b21182f65ce844cfd49f5cc2ab2849f54c1c3385ed5498fd42e06bb7c26cf5", func := "loop.example/g00684/laws.FnOps", spec := "fnOps", unfollowed := true, recurses := true, apart := false, narrowed := true }
def FnOpsUptoSaid : Prop := fnOpsUptoRow.holds Try.pinned (OpenSpec.upto fnOpsSpec)

/-- 'laws.FnExactReadImage', WHERE WHAT IT READS IS OF BULK AT MOST 1048576: true; the input reads as it did. -/
def fnExactReadImageUptoRow : OpenClaim := { program := "ytonmkhdbgofbpaa", sum := "b4b21182f65ce844cfd49f5cc2ab2849f54c1c3385ed5498fd42e06bb7c26cf5", func := "loop.example/g00684/laws.FnExactReadImage", spec := "fnExactReadImage", unfollowed := true, recurses := true, apart := false, narrowed := true }
def FnExactReadImageUptoSaid : Prop := fnExactReadImageUptoRow.holds Try.pinned (OpenSpec.upto fnExactReadImageSpec)

/-- 'laws.FnVerify', WHERE WHAT IT READS IS OF BULK AT MOST 1048576: true; the input reads as it did. -/
def fnVerifyUptoRow : OpenClaim := { program := "ytonmkhdbgofbpaa", sum := "b4b21182f65ce844cfd49f5cc2ab2849f54c1c3385ed5498fd42e06bb7c26cf5", func := "loop.example/g00684/laws.FnVerify", spec := "fnVerify", unfollowed := true, recurses := true, apart := false, narrowed := true }
def FnVerifyUptoSaid : Prop := fnVerifyUptoRow.holds Try.pinned (OpenSpec.upto fnVerifySpec)

end Rows
end Go.Proofs.Ytonmkhdbgofbpaa
