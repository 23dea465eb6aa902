/-
  DERIVED. GIVEN WITH THE SEED: THE CARDS: each row of YtkgefledbigklaaGreatDoorRows.lean that lists a variable, with what it lists TIED to the program's text (the seventh form; the later family's looks); each row that meets fmt, with fmt's text TOLD by the authors' own Lean function (tested against real Go, not proved from fmt's source: count such statements apart). THE CARD IS WHAT COUNTS. Prove the row's statement (the work); the ties are given (YtkgefledbigklaaGreatDoorTie.lean); close each card by the builder's one call (the guide's Derived/Test/ToyasCard.lean, 'card_holds'). Laid BY PROGRAM, IN A SANDBOX (cutbox-door.mjs). By AI agents, Wed Nov 11 2026. No macro, syntax, notation, axiom, sorry.
-/
import Derived.Test.YtkgefledbigklaaGreatDoorRows
import GoSem.ClaimSeven
namespace Go.Proofs.YtkgefledbigklaaGreatDoor
namespace Rows

/-- THE TIED CARD OF 'laws.FnExactPlcLines'. -/
def fnExactPlcLinesCard : Claim7 := { stood := { row := fnExactPlcLinesRow, standIns := [], harness := (true, "7127d4c64660c7eaa499d208e2f16ef790d152821effb524b0d716c10998458d"), looks := false }, kinds := [], alts := [], laidByText := true, laidKinds := [.data, .data, .data], laidTests := true, laidLooks := .later }
def FnExactPlcLinesCardSaid : Prop := Claim7.holds Tryz.pinned (.plain (OpenSpec.ofChange fnExactPlcLinesSpec)) fnExactPlcLinesCard

/-- THE TIED CARD OF 'laws.FnExactProgramLines'. -/
def fnExactProgramLinesCard : Claim7 := { stood := { row := fnExactProgramLinesRow, standIns := [], harness := (true, "7127d4c64660c7eaa499d208e2f16ef790d152821effb524b0d716c10998458d"), looks := false }, kinds := [], alts := [], laidByText := true, laidKinds := [.data, .data, .data, .listed, .data], laidTests := true, laidLooks := .later }
def FnExactProgramLinesCardSaid : Prop := Claim7.holds Tryz.pinned (.plain (OpenSpec.ofChange fnExactProgramLinesSpec)) fnExactProgramLinesCard

/-- THE TIED CARD OF 'laws.FnExactBoundLines'. -/
def fnExactBoundLinesCard : Claim7 := { stood := { row := fnExactBoundLinesRow, standIns := [], harness := (true, "7127d4c64660c7eaa499d208e2f16ef790d152821effb524b0d716c10998458d"), looks := false }, kinds := [], alts := [], laidByText := true, laidKinds := [.data, .data, .data], laidTests := true, laidLooks := .later }
def FnExactBoundLinesCardSaid : Prop := Claim7.holds Tryz.pinned (.plain (OpenSpec.ofChange fnExactBoundLinesSpec)) fnExactBoundLinesCard

/-- THE SECOND FORM's CARD OF 'laws.FnExactPlcLines'. -/
def fnExactPlcLinesUptoCard : Claim7 := { stood := { row := fnExactPlcLinesUptoRow, standIns := [], harness := (true, "7127d4c64660c7eaa499d208e2f16ef790d152821effb524b0d716c10998458d"), looks := false }, kinds := [], alts := [], laidByText := true, laidKinds := [.data, .data, .data], laidTests := true, laidLooks := .later }
def FnExactPlcLinesUptoCardSaid : Prop := Claim7.holds Tryz.pinned (.plain (OpenSpec.upto fnExactPlcLinesSpec)) fnExactPlcLinesUptoCard

/-- THE SECOND FORM's CARD OF 'laws.FnExactProgramLines'. -/
def fnExactProgramLinesUptoCard : Claim7 := { stood := { row := fnExactProgramLinesUptoRow, standIns := [], harness := (true, "7127d4c64660c7eaa499d208e2f16ef790d152821effb524b0d716c10998458d"), looks := false }, kinds := [], alts := [], laidByText := true, laidKinds := [.data, .data, .data, .listed, .data], laidTests := true, laidLooks := .later }
def FnExactProgramLinesUptoCardSaid : Prop := Claim7.holds Tryz.pinned (.plain (OpenSpec.upto fnExactProgramLinesSpec)) fnExactProgramLinesUptoCard

/-- THE SECOND FORM's CARD OF 'laws.FnExactBoundLines'. -/
def fnExactBoundLinesUptoCard : Claim7 := { stood := { row := fnExactBoundLinesUptoRow, standIns := [], harness := (true, "7127d4c64660c7eaa499d208e2f16ef790d152821effb524b0d716c10998458d"), looks := false }, kinds := [], alts := [], laidByText := true, laidKinds := [.data, .data, .data], laidTests := true, laidLooks := .later }
def FnExactBoundLinesUptoCardSaid : Prop := Claim7.holds Tryz.pinned (.plain (OpenSpec.upto fnExactBoundLinesSpec)) fnExactBoundLinesUptoCard
end Rows
end Go.Proofs.YtkgefledbigklaaGreatDoor
