/-
  No cell of these rows narrows 'for every input' (looked for: loops, veiled, ifaces, maps, wideKeys, modest, calm, conditions, laid).
  DERIVED. THE GIVEN ROWS OF THIS SEAT. 7 by the template 'for every input the law returns true; each argument reads behind the call as it read before'; 0 by the template 'total and deterministic' (their statements: YtnnhfeopdhnlhaaTotals.lean).
  GIVEN WITH THE SEED: the statements are not yours to turn. If you find one false, say at which input.
  Laid BY PROGRAM, IN A SANDBOX (cutbox-rows.mjs): the forced cells as the released guide's own fill.sh prints them over the translation 65e82a21a250bd08… (all of the seat's roots in one cut). By AI agents, Wed Nov 11 2026. No macro, syntax, notation, axiom, sorry.
-/
import Derived.Test.YtnnhfeopdhnlhaaChecked
import GoSem.Claim
import GoSem.ClaimJoined
import GoSem.ClaimMapViews
import Derived.JoinedTies
import Derived.KernelRfl
namespace Go.Proofs.Ytnnhfeopdhnlhaa
/- THE CELL 'sum', in the pinned program and in every row, IS THE sha256 OF THE DUMP (.gsa) THAT YtnnhfeopdhnlhaaProg.lean LOADS. Nothing in Lean hashes anything: it is a label: what it is worth is what the hold of that sum in a sandbox is worth. -/
noncomputable def Try.pinned : Pinned := { name := "ytnnhfeopdhnlhaa", sum := "65e82a21a250bd088a96af6084c406eb240fdbb30cdd7d2da9d899b376da042d", checked := Try.checked }
namespace Rows
def none {H : Type} : Left H := { results := [], args := [] }

/-- 'laws.FnExactTakeEvent': WHATEVER THE INPUT: true; the input reads as it did. -/
def fnExactTakeEventSpec : ChangeSpec := { name := "fnExactTakeEvent", fn := fun _ => fun
  | [d1, d2] => { results := [.lit (.bool true)], args := [d1, d2] }
  | _ => none }
def fnExactTakeEventRow : OpenClaim := { program := "ytnnhfeopdhnlhaa", sum := "65e82a21a250bd088a96af6084c406eb240fdbb30cdd7d2da9d899b376da042d", func := "loop.example/g00684/laws.FnExactTakeEvent", spec := "fnExactTakeEvent", unfollowed := true, recurses := true, apart := false }
def FnExactTakeEventSaid : Prop := fnExactTakeEventRow.holds Try.pinned (OpenSpec.ofChange fnExactTakeEventSpec)

/-- ITS FALSE NEIGHBOUR: 'it returns false'. Refute it at one input. -/
def fnExactTakeEventWrong : ChangeSpec := { name := "fnExactTakeEvent", fn := fun _ => fun
  | [d1, d2] => { results := [.lit (.bool false)], args := [d1, d2] }
  | _ => none }
def FnExactTakeEventWrongFalsely : Prop := fnExactTakeEventRow.holds Try.pinned (OpenSpec.ofChange fnExactTakeEventWrong)

/-- 'laws.FnExactDropEvents': WHATEVER THE INPUT: true; the input reads as it did. -/
def fnExactDropEventsSpec : ChangeSpec := { name := "fnExactDropEvents", fn := fun _ => fun
  | [d1, d2, d3] => { results := [.lit (.bool true)], args := [d1, d2, d3] }
  | _ => none }
def fnExactDropEventsRow : OpenClaim := { program := "ytnnhfeopdhnlhaa", sum := "65e82a21a250bd088a96af6084c406eb240fdbb30cdd7d2da9d899b376da042d", func := "loop.example/g00684/laws.FnExactDropEvents", spec := "fnExactDropEvents", unfollowed := true, recurses := true, apart := false }
def FnExactDropEventsSaid : Prop := fnExactDropEventsRow.holds Try.pinned (OpenSpec.ofChange fnExactDropEventsSpec)

/-- ITS FALSE NEIGHBOUR: 'it returns false'. Refute it at one input. -/
def fnExactDropEventsWrong : ChangeSpec := { name := "fnExactDropEvents", fn := fun _ => fun
  | [d1, d2, d3] => { results := [.lit (.bool false)], args := [d1, d2, d3] }
  | _ => none }
def FnExactDropEventsWrongFalsely : Prop := fnExactDropEventsRow.holds Try.pinned (OpenSpec.ofChange fnExactDropEventsWrong)

/-- 'laws.FnEvents': WHATEVER THE INPUT: true; the input reads as it did. -/
def fnEventsSpec : ChangeSpec := { name := "fnEvents", fn := fun _ => fun
  | [d1, d2] => { results := [.lit (.bool true)], args := [d1, d2] }
  | _ => none }
def fnEventsRow : OpenClaim := { program := "ytnnhfeopdhnlhaa", sum := "65e82a21a250bd088a96af6084c406eb240fdbb30cdd7d2da9d899b376da042d", func := "loop.example/g00684/laws.FnEvents", spec := "fnEvents", unfollowed := true, recurses := true, apart := false }
def FnEventsSaid : Prop := fnEventsRow.holds Try.pinned (OpenSpec.ofChange fnEventsSpec)

/-- ITS FALSE NEIGHBOUR: 'it returns false'. Refute it at one input. -/
def fnEventsWrong : ChangeSpec := { name := "fnEvents", fn := fun _ => fun
  | [d1, d2] => { results := [.lit (.bool false)], args := [d1, d2] }
  | _ => none }
def FnEventsWrongFalsely : Prop := fnEventsRow.holds Try.pinned (OpenSpec.ofChange fnEventsWrong)

/-- 'laws.FnExactOfferEvent': WHATEVER THE INPUT: true; the input reads as it did. -/
def fnExactOfferEventSpec : ChangeSpec := { name := "fnExactOfferEvent", fn := fun _ => fun
  | [d1, d2, d3] => { results := [.lit (.bool true)], args := [d1, d2, d3] }
  | _ => none }
def fnExactOfferEventRow : OpenClaim := { program := "ytnnhfeopdhnlhaa", sum := "65e82a21a250bd088a96af6084c406eb240fdbb30cdd7d2da9d899b376da042d", func := "loop.example/g00684/laws.FnExactOfferEvent", spec := "fnExactOfferEvent", unfollowed := true, recurses := true, apart := false }
def FnExactOfferEventSaid : Prop := fnExactOfferEventRow.holds Try.pinned (OpenSpec.ofChange fnExactOfferEventSpec)

/-- ITS FALSE NEIGHBOUR: 'it returns false'. Refute it at one input. -/
def fnExactOfferEventWrong : ChangeSpec := { name := "fnExactOfferEvent", fn := fun _ => fun
  | [d1, d2, d3] => { results := [.lit (.bool false)], args := [d1, d2, d3] }
  | _ => none }
def FnExactOfferEventWrongFalsely : Prop := fnExactOfferEventRow.holds Try.pinned (OpenSpec.ofChange fnExactOfferEventWrong)

/-- 'laws.FnCode': WHATEVER THE INPUT: true; the input reads as it did. -/
def fnCodeSpec : ChangeSpec := { name := "fnCode", fn := fun _ => fun
  | [d1, d2] => { results := [.lit (.bool true)], args := [d1, d2] }
  | _ => none }
def fnCodeRow : OpenClaim := { program := "ytnnhfeopdhnlhaa", sum := "65e82a21a250bd088a96af6084c406eb240fdbb30cdd7d2da9d899b376da042d", func := "loop.example/g00684/laws.FnCode", spec := "fnCode", inPlace := ["internal/abi.NoEscape"], unfollowed := true, recurses := true, apart := false }
def FnCodeSaid : Prop := fnCodeRow.holds Try.pinned (OpenSpec.ofChange fnCodeSpec)

/-- ITS FALSE NEIGHBOUR: 'it returns false'. Refute it at one input. -/
def fnCodeWrong : ChangeSpec := { name := "fnCode", fn := fun _ => fun
  | [d1, d2] => { results := [.lit (.bool false)], args := [d1, d2] }
  | _ => none }
def FnCodeWrongFalsely : Prop := fnCodeRow.holds Try.pinned (OpenSpec.ofChange fnCodeWrong)

/-- 'laws.FnExactLoadOf': WHATEVER THE INPUT: true; the input reads as it did. -/
def fnExactLoadOfSpec : ChangeSpec := { name := "fnExactLoadOf", fn := fun _ => fun
  | [d] => { results := [.lit (.bool true)], args := [d] }
  | _ => none }
def fnExactLoadOfRow : OpenClaim := { program := "ytnnhfeopdhnlhaa", sum := "65e82a21a250bd088a96af6084c406eb240fdbb30cdd7d2da9d899b376da042d", func := "loop.example/g00684/laws.FnExactLoadOf", spec := "fnExactLoadOf", unfollowed := true, recurses := true, apart := false }
def FnExactLoadOfSaid : Prop := fnExactLoadOfRow.holds Try.pinned (OpenSpec.ofChange fnExactLoadOfSpec)

/-- ITS FALSE NEIGHBOUR: 'it returns false'. Refute it at one input. -/
def fnExactLoadOfWrong : ChangeSpec := { name := "fnExactLoadOf", fn := fun _ => fun
  | [d] => { results := [.lit (.bool false)], args := [d] }
  | _ => none }
def FnExactLoadOfWrongFalsely : Prop := fnExactLoadOfRow.holds Try.pinned (OpenSpec.ofChange fnExactLoadOfWrong)

/-- 'laws.FnExactReadImage': WHATEVER THE INPUT: true; the input reads as it did. -/
def fnExactReadImageSpec : ChangeSpec := { name := "fnExactReadImage", fn := fun _ => fun
  | [d] => { results := [.lit (.bool true)], args := [d] }
  | _ => none }
def fnExactReadImageRow : OpenClaim := { program := "ytnnhfeopdhnlhaa", sum := "65e82a21a250bd088a96af6084c406eb240fdbb30cdd7d2da9d899b376da042d", func := "loop.example/g00684/laws.FnExactReadImage", spec := "fnExactReadImage", unfollowed := true, recurses := true, apart := false }
def FnExactReadImageSaid : Prop := fnExactReadImageRow.holds Try.pinned (OpenSpec.ofChange fnExactReadImageSpec)

/-- ITS FALSE NEIGHBOUR: 'it returns false'. Refute it at one input. -/
def fnExactReadImageWrong : ChangeSpec := { name := "fnExactReadImage", fn := fun _ => fun
  | [d] => { results := [.lit (.bool false)], args := [d] }
  | _ => none }
def FnExactReadImageWrongFalsely : Prop := fnExactReadImageRow.holds Try.pinned (OpenSpec.ofChange fnExactReadImageWrong)

/- THE SECOND FORM. 'bulk': how many values and letters a reading holds, each counted each time it is reached (what is shared counts as often as it is met; a slice's spare places count too). A statement '..UptoSaid' is the law's where the arguments, and the package variables that the reading takes, are together of bulk at most 1048576: NARROWER than '..Said'. Prove '..Said' where nothing that the law and all that it calls make is longer than what came in: it says more and counts as full. Else prove '..UptoSaid'. A law counts once. -/
mutual
def uptoBulk {H : Type} : DataW H → Nat
  | .lit (.string bytes) => bytes.length + 1
  | .lit _ => 1
  | .nil => 1
  | .ptr d => uptoBulk d + 1
  | .slice elems spare => uptoBulkAll elems + uptoBulkAll spare + 1
  | .agg parts => uptoBulkAll parts + 1
  | .iface _ d => uptoBulk d + 1
  | .map entries => uptoBulkEntries entries + 1
  | .held _ => 1
def uptoBulkAll {H : Type} : List (DataW H) → Nat
  | [] => 0
  | d :: r => uptoBulk d + uptoBulkAll r
def uptoBulkEntries {H : Type} : List (Lit × DataW H) → Nat
  | [] => 0
  | x :: r => uptoBulkEntry x + uptoBulkEntries r
def uptoBulkEntry {H : Type} : Lit × DataW H → Nat
  | (.string bytes, d) => bytes.length + uptoBulk d + 1
  | (_, d) => uptoBulk d + 1
 end
def uptoSmall : (H : Type) → List (DataW H) → Bool := fun _ ds => decide (uptoBulkAll ds ≤ 1048576)
def OpenSpec.upto (s : _root_.Go.ChangeSpec) : _root_.Go.OpenSpec := { _root_.Go.OpenSpec.ofChange s with cond := some uptoSmall }

/-- 'laws.FnExactTakeEvent', WHERE WHAT IT READS IS OF BULK AT MOST 1048576: true; the input reads as it did. -/
def fnExactTakeEventUptoRow : OpenClaim := { program := "ytnnhfeopdhnlhaa", sum := "65e82a21a250bd088a96af6084c406eb240fdbb30cdd7d2da9d899b376da042d", func := "loop.example/g00684/laws.FnExactTakeEvent", spec := "fnExactTakeEvent", unfollowed := true, recurses := true, apart := false, narrowed := true }
def FnExactTakeEventUptoSaid : Prop := fnExactTakeEventUptoRow.holds Try.pinned (OpenSpec.upto fnExactTakeEventSpec)

/-- 'laws.FnExactDropEvents', WHERE WHAT IT READS IS OF BULK AT MOST 1048576: true; the input reads as it did. -/
def fnExactDropEventsUptoRow : OpenClaim := { program := "ytnnhfeopdhnlhaa", sum := "65e82a21a250bd088a96af6084c406eb240fdbb30cdd7d2da9d899b376da042d", func := "loop.example/g00684/laws.FnExactDropEvents", spec := "fnExactDropEvents", unfollowed := true, recurses := true, apart := false, narrowed := true }
def FnExactDropEventsUptoSaid : Prop := fnExactDropEventsUptoRow.holds Try.pinned (OpenSpec.upto fnExactDropEventsSpec)

/-- 'laws.FnEvents', WHERE WHAT IT READS IS OF BULK AT MOST 1048576: true; the input reads as it did. -/
def fnEventsUptoRow : OpenClaim := { program := "ytnnhfeopdhnlhaa", sum := "65e82a21a250bd088a96af6084c406eb240fdbb30cdd7d2da9d899b376da042d", func := "loop.example/g00684/laws.FnEvents", spec := "fnEvents", unfollowed := true, recurses := true, apart := false, narrowed := true }
def FnEventsUptoSaid : Prop := fnEventsUptoRow.holds Try.pinned (OpenSpec.upto fnEventsSpec)

/-- 'laws.FnExactOfferEvent', WHERE WHAT IT READS IS OF BULK AT MOST 1048576: true; the input reads as it did. -/
def fnExactOfferEventUptoRow : OpenClaim := { program := "ytnnhfeopdhnlhaa", sum := "65e82a21a250bd088a96af6084c406eb240fdbb30cdd7d2da9d899b376da042d", func := "loop.example/g00684/laws.FnExactOfferEvent", spec := "fnExactOfferEvent", unfollowed := true, recurses := true, apart := false, narrowed := true }
def FnExactOfferEventUptoSaid : Prop := fnExactOfferEventUptoRow.holds Try.pinned (OpenSpec.upto fnExactOfferEventSpec)

/-- 'laws.FnCode', WHERE WHAT IT READS IS OF BULK AT MOST 1048576: true; the input reads as it did. -/
def fnCodeUptoRow : OpenClaim := { program := "ytnnhfeopdhnlhaa", sum := "65e82a21a250bd088a96af6084c406eb240fdbb30cdd7d2da9d899b376da042d", func := "loop.example/g00684/laws.FnCode", spec := "fnCode", inPlace := ["internal/abi.NoEscape"], unfollowed := true, recurses := true, apart := false, narrowed := true }
def FnCodeUptoSaid : Prop := fnCodeUptoRow.holds Try.pinned (OpenSpec.upto fnCodeSpec)

/-- 'laws.FnExactLoadOf', WHERE WHAT IT READS IS OF BULK AT MOST 1048576: true; the input reads as it did. -/
def fnExactLoadOfUptoRow : OpenClaim := { program := "ytnnhfeopdhnlhaa", sum := "65e82a21a250bd088a96af6084c406eb240fdbb30cdd7d2da9d899b376da042d", func := "loop.example/g00684/laws.FnExactLoadOf", spec := "fnExactLoadOf", unfollowed := true, recurses := true, apart := false, narrowed := true }
def FnExactLoadOfUptoSaid : Prop := fnExactLoadOfUptoRow.holds Try.pinned (OpenSpec.upto fnExactLoadOfSpec)

/-- 'laws.FnExactReadImage', WHERE WHAT IT READS IS OF BULK AT MOST 1048576: true; the input reads as it did. -/
def fnExactReadImageUptoRow : OpenClaim := { program := "ytnnhfeopdhnlhaa", sum := "65e82a21a250bd088a96af6084c406eb240fdbb30cdd7d2da9d899b376da042d", func := "loop.example/g00684/laws.FnExactReadImage", spec := "fnExactReadImage", unfollowed := true, recurses := true, apart := false, narrowed := true }
def FnExactReadImageUptoSaid : Prop := fnExactReadImageUptoRow.holds Try.pinned (OpenSpec.upto fnExactReadImageSpec)

end Rows
end Go.Proofs.Ytnnhfeopdhnlhaa
