/-
  DERIVED. GIVEN WITH THE SEED: THE CARDS: each row of YthpolfpbioebnaaDoorRows.lean that lists a variable, with what it lists TIED to the program's text (the seventh form; the later family's looks); each row that meets fmt, with fmt's text TOLD by the authors' own Lean function (tested against real Go, not proved from fmt's source: count such statements apart). THE CARD IS WHAT COUNTS. Prove the row's statement (the work); the ties are given (YthpolfpbioebnaaDoorTie.lean); close each card by the builder's one call (the guide's Derived/Test/ToyasCard.lean, 'card_holds'). Laid BY PROGRAM, IN A SANDBOX (cutbox-door.mjs). By AI agents, Wed Nov 11 2026. No macro, syntax, notation, axiom, sorry.
-/
import Derived.Test.YthpolfpbioebnaaDoorRows
import GoSem.ClaimSeven
namespace Go.Proofs.YthpolfpbioebnaaDoor
namespace Rows

/-- THE TIED CARD OF 'laws.FnExactReadTask'. -/
def fnExactReadTaskCard : Claim7 := { stood := { row := fnExactReadTaskRow, standIns := [], harness := (true, "37f693e2a9efd9b9fd287a656e1a7f4281e73032b2fe0170711c8a829df4a22b"), looks := true }, kinds := [], alts := [], laidByText := true, laidKinds := [.data, .data, .data, .data, .sentinel, .sentinel, .pinned], laidTests := true, laidLooks := .later }
def FnExactReadTaskCardSaid : Prop := Claim7.holds Tryd.pinned (.plain (OpenSpec.ofChange fnExactReadTaskSpec)) fnExactReadTaskCard

/-- THE TIED CARD OF 'laws.FnExactReadScript'. -/
def fnExactReadScriptCard : Claim7 := { stood := { row := fnExactReadScriptRow, standIns := [], harness := (true, "37f693e2a9efd9b9fd287a656e1a7f4281e73032b2fe0170711c8a829df4a22b"), looks := true }, kinds := [], alts := [], laidByText := true, laidKinds := [.data, .data, .data, .data, .sentinel, .sentinel, .pinned], laidTests := true, laidLooks := .later }
def FnExactReadScriptCardSaid : Prop := Claim7.holds Tryd.pinned (.plain (OpenSpec.ofChange fnExactReadScriptSpec)) fnExactReadScriptCard

/-- THE SECOND FORM's CARD OF 'laws.FnExactReadTask'. -/
def fnExactReadTaskUptoCard : Claim7 := { stood := { row := fnExactReadTaskUptoRow, standIns := [], harness := (true, "37f693e2a9efd9b9fd287a656e1a7f4281e73032b2fe0170711c8a829df4a22b"), looks := true }, kinds := [], alts := [], laidByText := true, laidKinds := [.data, .data, .data, .data, .sentinel, .sentinel, .pinned], laidTests := true, laidLooks := .later }
def FnExactReadTaskUptoCardSaid : Prop := Claim7.holds Tryd.pinned (.plain (OpenSpec.upto fnExactReadTaskSpec)) fnExactReadTaskUptoCard

/-- THE SECOND FORM's CARD OF 'laws.FnExactReadScript'. -/
def fnExactReadScriptUptoCard : Claim7 := { stood := { row := fnExactReadScriptUptoRow, standIns := [], harness := (true, "37f693e2a9efd9b9fd287a656e1a7f4281e73032b2fe0170711c8a829df4a22b"), looks := true }, kinds := [], alts := [], laidByText := true, laidKinds := [.data, .data, .data, .data, .sentinel, .sentinel, .pinned], laidTests := true, laidLooks := .later }
def FnExactReadScriptUptoCardSaid : Prop := Claim7.holds Tryd.pinned (.plain (OpenSpec.upto fnExactReadScriptSpec)) fnExactReadScriptUptoCard
end Rows
end Go.Proofs.YthpolfpbioebnaaDoor
