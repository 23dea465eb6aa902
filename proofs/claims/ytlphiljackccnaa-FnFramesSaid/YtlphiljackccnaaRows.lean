/-
  No cell of these rows narrows 'for every input' (looked for: loops, veiled, ifaces, maps, wideKeys, modest, calm, conditions, laid).
  DERIVED. THE GIVEN ROWS OF THIS SEAT. 12 by the template 'for every input the law returns true; each argument reads behind the call as it read before'; 0 by the template 'total and deterministic' (their statements: YtlphiljackccnaaTotals.lean).
  GIVEN WITH THE SEED: the statements are not yours to turn. If you find one false, say at which input.
  Laid BY PROGRAM, IN A SANDBOX (cutbox-rows.mjs): the forced cells as the released guide's own fill.sh prints them over the translation 3b8b3f2a485df0b1… (all of the seat's roots in one cut). By AI agents, Wed Nov 11 2026. No macro, syntax, notation, axiom, sorry.
-/
import Derived.Test.YtlphiljackccnaaChecked
import GoSem.Claim
import GoSem.ClaimJoined
import GoSem.ClaimMapViews
import Derived.JoinedTies
import Derived.KernelRfl
namespace Go.Proofs.Ytlphiljackccnaa
/- THE CELL 'sum', in the pinned program and in every row, IS THE sha256 OF THE DUMP (.gsa) THAT YtlphiljackccnaaProg.lean LOADS. Nothing in Lean hashes anything: it is a label: what it is worth is what the hold of that sum in a sandbox is worth. -/
noncomputable def Try.pinned : Pinned := { name := "ytlphiljackccnaa", sum := "3b8b3f2a485df0b14ea7bfe66e680b29e57ea7cf9457701410ed85db1a872bc3", checked := Try.checked }
namespace Rows
def none {H : Type} : Left H := { results := [], args := [] }

/-- 'laws.FnExactTakeNumber': WHATEVER THE INPUT: true; the input reads as it did. -/
def fnExactTakeNumberSpec : ChangeSpec := { name := "fnExactTakeNumber", fn := fun _ => fun
  | [d1, d2, d3] => { results := [.lit (.bool true)], args := [d1, d2, d3] }
  | _ => none }
def fnExactTakeNumberRow : OpenClaim := { program := "ytlphiljackccnaa", sum := "3b8b3f2a485df0b14ea7bfe66e680b29e57ea7cf9457701410ed85db1a872bc3", func := "loop.example/g00684/laws.FnExactTakeNumber", spec := "fnExactTakeNumber", apart := false }
def FnExactTakeNumberSaid : Prop := fnExactTakeNumberRow.holds Try.pinned (OpenSpec.ofChange fnExactTakeNumberSpec)

/-- ITS FALSE NEIGHBOUR: 'it returns false'. Refute it at one input. -/
def fnExactTakeNumberWrong : ChangeSpec := { name := "fnExactTakeNumber", fn := fun _ => fun
  | [d1, d2, d3] => { results := [.lit (.bool false)], args := [d1, d2, d3] }
  | _ => none }
def FnExactTakeNumberWrongFalsely : Prop := fnExactTakeNumberRow.holds Try.pinned (OpenSpec.ofChange fnExactTakeNumberWrong)

/-- 'laws.FnExactNewSource': WHATEVER THE INPUT: true; the input reads as it did. -/
def fnExactNewSourceSpec : ChangeSpec := { name := "fnExactNewSource", fn := fun _ => fun
  | [] => { results := [.lit (.bool true)], args := [] }
  | _ => none }
def fnExactNewSourceRow : OpenClaim := { program := "ytlphiljackccnaa", sum := "3b8b3f2a485df0b14ea7bfe66e680b29e57ea7cf9457701410ed85db1a872bc3", func := "loop.example/g00684/laws.FnExactNewSource", spec := "fnExactNewSource", apart := false }
def FnExactNewSourceSaid : Prop := fnExactNewSourceRow.holds Try.pinned (OpenSpec.ofChange fnExactNewSourceSpec)

/-- ITS FALSE NEIGHBOUR: 'it returns false'. Refute it at one input. -/
def fnExactNewSourceWrong : ChangeSpec := { name := "fnExactNewSource", fn := fun _ => fun
  | [] => { results := [.lit (.bool false)], args := [] }
  | _ => none }
def FnExactNewSourceWrongFalsely : Prop := fnExactNewSourceRow.holds Try.pinned (OpenSpec.ofChange fnExactNewSourceWrong)

/-- 'laws.FnExactInOrder': WHATEVER THE INPUT: true; the input reads as it did. -/
def fnExactInOrderSpec : ChangeSpec := { name := "fnExactInOrder", fn := fun _ => fun
  | [d] => { results := [.lit (.bool true)], args := [d] }
  | _ => none }
def fnExactInOrderRow : OpenClaim := { program := "ytlphiljackccnaa", sum := "3b8b3f2a485df0b14ea7bfe66e680b29e57ea7cf9457701410ed85db1a872bc3", func := "loop.example/g00684/laws.FnExactInOrder", spec := "fnExactInOrder", apart := false }
def FnExactInOrderSaid : Prop := fnExactInOrderRow.holds Try.pinned (OpenSpec.ofChange fnExactInOrderSpec)

/-- ITS FALSE NEIGHBOUR: 'it returns false'. Refute it at one input. -/
def fnExactInOrderWrong : ChangeSpec := { name := "fnExactInOrder", fn := fun _ => fun
  | [d] => { results := [.lit (.bool false)], args := [d] }
  | _ => none }
def FnExactInOrderWrongFalsely : Prop := fnExactInOrderRow.holds Try.pinned (OpenSpec.ofChange fnExactInOrderWrong)

/-- 'laws.FnExactReadFrame': WHATEVER THE INPUT: true; the input reads as it did. -/
def fnExactReadFrameSpec : ChangeSpec := { name := "fnExactReadFrame", fn := fun _ => fun
  | [d] => { results := [.lit (.bool true)], args := [d] }
  | _ => none }
def fnExactReadFrameRow : OpenClaim := { program := "ytlphiljackccnaa", sum := "3b8b3f2a485df0b14ea7bfe66e680b29e57ea7cf9457701410ed85db1a872bc3", func := "loop.example/g00684/laws.FnExactReadFrame", spec := "fnExactReadFrame", apart := false }
def FnExactReadFrameSaid : Prop := fnExactReadFrameRow.holds Try.pinned (OpenSpec.ofChange fnExactReadFrameSpec)

/-- ITS FALSE NEIGHBOUR: 'it returns false'. Refute it at one input. -/
def fnExactReadFrameWrong : ChangeSpec := { name := "fnExactReadFrame", fn := fun _ => fun
  | [d] => { results := [.lit (.bool false)], args := [d] }
  | _ => none }
def FnExactReadFrameWrongFalsely : Prop := fnExactReadFrameRow.holds Try.pinned (OpenSpec.ofChange fnExactReadFrameWrong)

/-- 'laws.FnExactRisesOf': WHATEVER THE INPUT: true; the input reads as it did. -/
def fnExactRisesOfSpec : ChangeSpec := { name := "fnExactRisesOf", fn := fun _ => fun
  | [d1, d2] => { results := [.lit (.bool true)], args := [d1, d2] }
  | _ => none }
def fnExactRisesOfRow : OpenClaim := { program := "ytlphiljackccnaa", sum := "3b8b3f2a485df0b14ea7bfe66e680b29e57ea7cf9457701410ed85db1a872bc3", func := "loop.example/g00684/laws.FnExactRisesOf", spec := "fnExactRisesOf", apart := false }
def FnExactRisesOfSaid : Prop := fnExactRisesOfRow.holds Try.pinned (OpenSpec.ofChange fnExactRisesOfSpec)

/-- ITS FALSE NEIGHBOUR: 'it returns false'. Refute it at one input. -/
def fnExactRisesOfWrong : ChangeSpec := { name := "fnExactRisesOf", fn := fun _ => fun
  | [d1, d2] => { results := [.lit (.bool false)], args := [d1, d2] }
  | _ => none }
def FnExactRisesOfWrongFalsely : Prop := fnExactRisesOfRow.holds Try.pinned (OpenSpec.ofChange fnExactRisesOfWrong)

/-- 'laws.FnRises': WHATEVER THE INPUT: true; the input reads as it did. -/
def fnRisesSpec : ChangeSpec := { name := "fnRises", fn := fun _ => fun
  | [d1, d2] => { results := [.lit (.bool true)], args := [d1, d2] }
  | _ => none }
def fnRisesRow : OpenClaim := { program := "ytlphiljackccnaa", sum := "3b8b3f2a485df0b14ea7bfe66e680b29e57ea7cf9457701410ed85db1a872bc3", func := "loop.example/g00684/laws.FnRises", spec := "fnRises", apart := false }
def FnRisesSaid : Prop := fnRisesRow.holds Try.pinned (OpenSpec.ofChange fnRisesSpec)

/-- ITS FALSE NEIGHBOUR: 'it returns false'. Refute it at one input. -/
def fnRisesWrong : ChangeSpec := { name := "fnRises", fn := fun _ => fun
  | [d1, d2] => { results := [.lit (.bool false)], args := [d1, d2] }
  | _ => none }
def FnRisesWrongFalsely : Prop := fnRisesRow.holds Try.pinned (OpenSpec.ofChange fnRisesWrong)

/-- 'laws.FnNumbers': WHATEVER THE INPUT: true; the input reads as it did. -/
def fnNumbersSpec : ChangeSpec := { name := "fnNumbers", fn := fun _ => fun
  | [d1, d2] => { results := [.lit (.bool true)], args := [d1, d2] }
  | _ => none }
def fnNumbersRow : OpenClaim := { program := "ytlphiljackccnaa", sum := "3b8b3f2a485df0b14ea7bfe66e680b29e57ea7cf9457701410ed85db1a872bc3", func := "loop.example/g00684/laws.FnNumbers", spec := "fnNumbers", apart := false }
def FnNumbersSaid : Prop := fnNumbersRow.holds Try.pinned (OpenSpec.ofChange fnNumbersSpec)

/-- ITS FALSE NEIGHBOUR: 'it returns false'. Refute it at one input. -/
def fnNumbersWrong : ChangeSpec := { name := "fnNumbers", fn := fun _ => fun
  | [d1, d2] => { results := [.lit (.bool false)], args := [d1, d2] }
  | _ => none }
def FnNumbersWrongFalsely : Prop := fnNumbersRow.holds Try.pinned (OpenSpec.ofChange fnNumbersWrong)

/-- 'laws.FnExactSourceOK': WHATEVER THE INPUT: true; the input reads as it did. -/
def fnExactSourceOKSpec : ChangeSpec := { name := "fnExactSourceOK", fn := fun _ => fun
  | [d1, d2] => { results := [.lit (.bool true)], args := [d1, d2] }
  | _ => none }
def fnExactSourceOKRow : OpenClaim := { program := "ytlphiljackccnaa", sum := "3b8b3f2a485df0b14ea7bfe66e680b29e57ea7cf9457701410ed85db1a872bc3", func := "loop.example/g00684/laws.FnExactSourceOK", spec := "fnExactSourceOK", unfollowed := true, recurses := true, apart := false }
def FnExactSourceOKSaid : Prop := fnExactSourceOKRow.holds Try.pinned (OpenSpec.ofChange fnExactSourceOKSpec)

/-- ITS FALSE NEIGHBOUR: 'it returns false'. Refute it at one input. -/
def fnExactSourceOKWrong : ChangeSpec := { name := "fnExactSourceOK", fn := fun _ => fun
  | [d1, d2] => { results := [.lit (.bool false)], args := [d1, d2] }
  | _ => none }
def FnExactSourceOKWrongFalsely : Prop := fnExactSourceOKRow.holds Try.pinned (OpenSpec.ofChange fnExactSourceOKWrong)

/-- 'laws.FnExactBalanceOf': WHATEVER THE INPUT: true; the input reads as it did. -/
def fnExactBalanceOfSpec : ChangeSpec := { name := "fnExactBalanceOf", fn := fun _ => fun
  | [d1, d2] => { results := [.lit (.bool true)], args := [d1, d2] }
  | _ => none }
def fnExactBalanceOfRow : OpenClaim := { program := "ytlphiljackccnaa", sum := "3b8b3f2a485df0b14ea7bfe66e680b29e57ea7cf9457701410ed85db1a872bc3", func := "loop.example/g00684/laws.FnExactBalanceOf", spec := "fnExactBalanceOf", unfollowed := true, recurses := true, apart := false }
def FnExactBalanceOfSaid : Prop := fnExactBalanceOfRow.holds Try.pinned (OpenSpec.ofChange fnExactBalanceOfSpec)

/-- ITS FALSE NEIGHBOUR: 'it returns false'. Refute it at one input. -/
def fnExactBalanceOfWrong : ChangeSpec := { name := "fnExactBalanceOf", fn := fun _ => fun
  | [d1, d2] => { results := [.lit (.bool false)], args := [d1, d2] }
  | _ => none }
def FnExactBalanceOfWrongFalsely : Prop := fnExactBalanceOfRow.holds Try.pinned (OpenSpec.ofChange fnExactBalanceOfWrong)

/-- 'laws.FnExactReadCode': WHATEVER THE INPUT: true; the input reads as it did. -/
def fnExactReadCodeSpec : ChangeSpec := { name := "fnExactReadCode", fn := fun _ => fun
  | [d] => { results := [.lit (.bool true)], args := [d] }
  | _ => none }
def fnExactReadCodeRow : OpenClaim := { program := "ytlphiljackccnaa", sum := "3b8b3f2a485df0b14ea7bfe66e680b29e57ea7cf9457701410ed85db1a872bc3", func := "loop.example/g00684/laws.FnExactReadCode", spec := "fnExactReadCode", apart := false }
def FnExactReadCodeSaid : Prop := fnExactReadCodeRow.holds Try.pinned (OpenSpec.ofChange fnExactReadCodeSpec)

/-- ITS FALSE NEIGHBOUR: 'it returns false'. Refute it at one input. -/
def fnExactReadCodeWrong : ChangeSpec := { name := "fnExactReadCode", fn := fun _ => fun
  | [d] => { results := [.lit (.bool false)], args := [d] }
  | _ => none }
def FnExactReadCodeWrongFalsely : Prop := fnExactReadCodeRow.holds Try.pinned (OpenSpec.ofChange fnExactReadCodeWrong)

/-- 'laws.FnFrames': WHATEVER THE INPUT: true; the input reads as it did. -/
def fnFramesSpec : ChangeSpec := { name := "fnFrames", fn := fun _ => fun
  | [d1, d2] => { results := [.lit (.bool true)], args := [d1, d2] }
  | _ => none }
def fnFramesRow : OpenClaim := { program := "ytlphiljackccnaa", sum := "3b8b3f2a485df0b14ea7bfe66e680b29e57ea7cf9457701410ed85db1a872bc3", func := "loop.example/g00684/laws.FnFrames", spec := "fnFrames", apart := false }
def FnFramesSaid : Prop := fnFramesRow.holds Try.pinned (OpenSpec.ofChange fnFramesSpec)

/-- ITS FALSE NEIGHBOUR: 'it returns false'. Refute it at one input. -/
def fnFramesWrong : ChangeSpec := { name := "fnFrames", fn := fun _ => fun
  | [d1, d2] => { results := [.lit (.bool false)], args := [d1, d2] }
  | _ => none }
def FnFramesWrongFalsely : Prop := fnFramesRow.holds Try.pinned (OpenSpec.ofChange fnFramesWrong)

/-- 'laws.FnExactTakeEvent': WHATEVER THE INPUT: true; the input reads as it did. -/
def fnExactTakeEventSpec : ChangeSpec := { name := "fnExactTakeEvent", fn := fun _ => fun
  | [d1, d2] => { results := [.lit (.bool true)], args := [d1, d2] }
  | _ => none }
def fnExactTakeEventRow : OpenClaim := { program := "ytlphiljackccnaa", sum := "3b8b3f2a485df0b14ea7bfe66e680b29e57ea7cf9457701410ed85db1a872bc3", func := "loop.example/g00684/laws.FnExactTakeEvent", spec := "fnExactTakeEvent", unfollowed := true, recurses := true, apart := false }
def FnExactTakeEventSaid : Prop := fnExactTakeEventRow.holds Try.pinned (OpenSpec.ofChange fnExactTakeEventSpec)

/-- ITS FALSE NEIGHBOUR: 'it returns false'. Refute it at one input. -/
def fnExactTakeEventWrong : ChangeSpec := { name := "fnExactTakeEvent", fn := fun _ => fun
  | [d1, d2] => { results := [.lit (.bool false)], args := [d1, d2] }
  | _ => none }
def FnExactTakeEventWrongFalsely : Prop := fnExactTakeEventRow.holds Try.pinned (OpenSpec.ofChange fnExactTakeEventWrong)

/- THE SECOND FORM. 'bulk': how many values and letters a reading holds, each counted each time it is reached (what is shared counts as often as it is met; a slice's spare places count too). A statement '..UptoSaid' is the law's where the arguments, and the package variables that the reading takes, are together of bulk at most 1048576: NARROWER than '..Said'. Prove '..Said' where nothing that the law and all that it calls make is longer than what came in: it says more and counts as full. Else prove '..UptoSaid'. A law counts once. -/
mutual
def uptoBulk {H : Type} : DataW H → Nat
  | .lit (.string bytes) => bytes.length + 1
  | .lit _ => 1
  | .nil => 1
  | .ptr d => uptoBulk d + 1
  | .slice elems spare => uptoBulkAll elems + uptoBulkAll spare + 1
  | .agg parts => uptoBulkAll parts + 1
  | .iface _ d => uptoBulk d + 1
  | .map entries => uptoBulkEntries entries + 1
  | .held _ => 1
def uptoBulkAll {H : Type} : List (DataW H) → Nat
  | [] => 0
  | d :: r => uptoBulk d + uptoBulkAll r
def uptoBulkEntries {H : Type} : List (Lit × DataW H) → Nat
  | [] => 0
  | x :: r => uptoBulkEntry x + uptoBulkEntries r
def uptoBulkEntry {H : Type} : Lit × DataW H → Nat
  | (.string bytes, d) => bytes.length + uptoBulk d + 1
  | (_, d) => uptoBulk d + 1
 end
def uptoSmall : (H : Type) → List (DataW H) → Bool := fun _ ds => decide (uptoBulkAll ds ≤ 1048576)
def OpenSpec.upto (s : _root_.Go.ChangeSpec) : _root_.Go.OpenSpec := { _root_.Go.OpenSpec.ofChange s with cond := some uptoSmall }

/-- 'laws.FnExactTakeNumber', WHERE WHAT IT READS IS OF BULK AT MOST 1048576: true; the input reads as it did. -/
def fnExactTakeNumberUptoRow : OpenClaim := { program := "ytlphiljackccnaa", sum := "3b8b3f2a485df0b14ea7bfe66e680b29e57ea7cf9457701410ed85db1a872bc3", func := "loop.example/g00684/laws.FnExactTakeNumber", spec := "fnExactTakeNumber", apart := false, narrowed := true }
def FnExactTakeNumberUptoSaid : Prop := fnExactTakeNumberUptoRow.holds Try.pinned (OpenSpec.upto fnExactTakeNumberSpec)

/-- 'laws.FnExactNewSource', WHERE WHAT IT READS IS OF BULK AT MOST 1048576: true; the input reads as it did. -/
def fnExactNewSourceUptoRow : OpenClaim := { program := "ytlphiljackccnaa", sum := "3b8b3f2a485df0b14ea7bfe66e680b29e57ea7cf9457701410ed85db1a872bc3", func := "loop.example/g00684/laws.FnExactNewSource", spec := "fnExactNewSource", apart := false, narrowed := true }
def FnExactNewSourceUptoSaid : Prop := fnExactNewSourceUptoRow.holds Try.pinned (OpenSpec.upto fnExactNewSourceSpec)

/-- 'laws.FnExactInOrder', WHERE WHAT IT READS IS OF BULK AT MOST 1048576: true; the input reads as it did. -/
def fnExactInOrderUptoRow : OpenClaim := { program := "ytlphiljackccnaa", sum := "3b8b3f2a485df0b14ea7bfe66e680b29e57ea7cf9457701410ed85db1a872bc3", func := "loop.example/g00684/laws.FnExactInOrder", spec := "fnExactInOrder", apart := false, narrowed := true }
def FnExactInOrderUptoSaid : Prop := fnExactInOrderUptoRow.holds Try.pinned (OpenSpec.upto fnExactInOrderSpec)

/-- 'laws.FnExactReadFrame', WHERE WHAT IT READS IS OF BULK AT MOST 1048576: true; the input reads as it did. -/
def fnExactReadFrameUptoRow : OpenClaim := { program := "ytlphiljackccnaa", sum := "3b8b3f2a485df0b14ea7bfe66e680b29e57ea7cf9457701410ed85db1a872bc3", func := "loop.example/g00684/laws.FnExactReadFrame", spec := "fnExactReadFrame", apart := false, narrowed := true }
def FnExactReadFrameUptoSaid : Prop := fnExactReadFrameUptoRow.holds Try.pinned (OpenSpec.upto fnExactReadFrameSpec)

/-- 'laws.FnExactRisesOf', WHERE WHAT IT READS IS OF BULK AT MOST 1048576: true; the input reads as it did. -/
def fnExactRisesOfUptoRow : OpenClaim := { program := "ytlphiljackccnaa", sum := "3b8b3f2a485df0b14ea7bfe66e680b29e57ea7cf9457701410ed85db1a872bc3", func := "loop.example/g00684/laws.FnExactRisesOf", spec := "fnExactRisesOf", apart := false, narrowed := true }
def FnExactRisesOfUptoSaid : Prop := fnExactRisesOfUptoRow.holds Try.pinned (OpenSpec.upto fnExactRisesOfSpec)

/-- 'laws.FnRises', WHERE WHAT IT READS IS OF BULK AT MOST 1048576: true; the input reads as it did. -/
def fnRisesUptoRow : OpenClaim := { program := "ytlphiljackccnaa", sum := "3b8b3f2a485df0b14ea7bfe66e680b29e57ea7cf9457701410ed85db1a872bc3", func := "loop.example/g00684/laws.FnRises", spec := "fnRises", apart := false, narrowed := true }
def FnRisesUptoSaid : Prop := fnRisesUptoRow.holds Try.pinned (OpenSpec.upto fnRisesSpec)

/-- 'laws.FnNumbers', WHERE WHAT IT READS IS OF BULK AT MOST 1048576: true; the input reads as it did. -/
def fnNumbersUptoRow : OpenClaim := { program := "ytlphiljackccnaa", sum := "3b8b3f2a485df0b14ea7bfe66e680b29e57ea7cf9457701410ed85db1a872bc3", func := "loop.example/g00684/laws.FnNumbers", spec := "fnNumbers", apart := false, narrowed := true }
def FnNumbersUptoSaid : Prop := fnNumbersUptoRow.holds Try.pinned (OpenSpec.upto fnNumbersSpec)

/-- 'laws.FnExactSourceOK', WHERE WHAT IT READS IS OF BULK AT MOST 1048576: true; the input reads as it did. -/
def fnExactSourceOKUptoRow : OpenClaim := { program := "ytlphiljackccnaa", sum := "3b8b3f2a485df0b14ea7bfe66e680b29e57ea7cf9457701410ed85db1a872bc3", func := "loop.example/g00684/laws.FnExactSourceOK", spec := "fnExactSourceOK", unfollowed := true, recurses := true, apart := false, narrowed := true }
def FnExactSourceOKUptoSaid : Prop := fnExactSourceOKUptoRow.holds Try.pinned (OpenSpec.upto fnExactSourceOKSpec)

/-- 'laws.FnExactBalanceOf', WHERE WHAT IT READS IS OF BULK AT MOST 1048576: true; the input reads as it did. -/
def fnExactBalanceOfUptoRow : OpenClaim := { program := "ytlphiljackccnaa", sum := "3b8b3f2a485df0b14ea7bfe66e680b29e57ea7cf9457701410ed85db1a872bc3", func := "loop.example/g00684/laws.FnExactBalanceOf", spec := "fnExactBalanceOf", unfollowed := true, recurses := true, apart := false, narrowed := true }
def FnExactBalanceOfUptoSaid : Prop := fnExactBalanceOfUptoRow.holds Try.pinned (OpenSpec.upto fnExactBalanceOfSpec)

/-- 'laws.FnExactReadCode', WHERE WHAT IT READS IS OF BULK AT MOST 1048576: true; the input reads as it did. -/
def fnExactReadCodeUptoRow : OpenClaim := { program := "ytlphiljackccnaa", sum := "3b8b3f2a485df0b14ea7bfe66e680b29e57ea7cf9457701410ed85db1a872bc3", func := "loop.example/g00684/laws.FnExactReadCode", spec := "fnExactReadCode", apart := false, narrowed := true }
def FnExactReadCodeUptoSaid : Prop := fnExactReadCodeUptoRow.holds Try.pinned (OpenSpec.upto fnExactReadCodeSpec)

/-- 'laws.FnFrames', WHERE WHAT IT READS IS OF BULK AT MOST 1048576: true; the input reads as it did. -/
def fnFramesUptoRow : OpenClaim := { program := "ytlphiljackccnaa", sum := "3b8b3f2a485df0b14ea7bfe66e680b29e57ea7cf9457701410ed85db1a872bc3", func := "loop.example/g00684/laws.FnFrames", spec := "fnFrames", apart := false, narrowed := true }
def FnFramesUptoSaid : Prop := fnFramesUptoRow.holds Try.pinned (OpenSpec.upto fnFramesSpec)

/-- 'laws.FnExactTakeEvent', WHERE WHAT IT READS IS OF BULK AT MOST 1048576: true; the input reads as it did. -/
def fnExactTakeEventUptoRow : OpenClaim := { program := "ytlphiljackccnaa", sum := "3b8b3f2a485df0b14ea7bfe66e680b29e57ea7cf9457701410ed85db1a872bc3", func := "loop.example/g00684/laws.FnExactTakeEvent", spec := "fnExactTakeEvent", unfollowed := true, recurses := true, apart := false, narrowed := true }
def FnExactTakeEventUptoSaid : Prop := fnExactTakeEventUptoRow.holds Try.pinned (OpenSpec.upto fnExactTakeEventSpec)

end Rows
end Go.Proofs.Ytlphiljackccnaa
