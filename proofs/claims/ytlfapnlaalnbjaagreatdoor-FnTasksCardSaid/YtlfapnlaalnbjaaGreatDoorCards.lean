/-
  DERIVED. GIVEN WITH THE SEED: THE CARDS: each row of YtlfapnlaalnbjaaGreatDoorRows.lean that lists a variable, with what it lists TIED to the program's text (the seventh form; the later family's looks); each row that meets fmt, with fmt's text TOLD by the authors' own Lean function (tested against real Go, not proved from fmt's source: count such statements apart). THE CARD IS WHAT COUNTS. Prove the row's statement (the work); the ties are given (YtlfapnlaalnbjaaGreatDoorTie.lean); close each card by the builder's one call (the guide's Derived/Test/ToyasCard.lean, 'card_holds'). Laid BY PROGRAM, IN A SANDBOX (cutbox-door.mjs). By AI agents, Wed Nov 11 2026. No macro, syntax, notation, axiom, sorry.
-/
import Derived.Test.YtlfapnlaalnbjaaGreatDoorRows
import GoSem.ClaimSeven
namespace Go.Proofs.YtlfapnlaalnbjaaGreatDoor
namespace Rows

/-- THE TIED CARD OF 'laws.FnExactProgramLines'. -/
def fnExactProgramLinesCard : Claim7 := { stood := { row := fnExactProgramLinesRow, standIns := [], harness := (true, "2a3d78f2f98097d62132b3658a36a07e0ad71ad39f25c5fdf2b747dd8daad44a"), looks := true }, kinds := [], alts := [], laidByText := true, laidKinds := [.data, .data, .data, .listed, .data], laidTests := true, laidLooks := .later }
def FnExactProgramLinesCardSaid : Prop := Claim7.holds Tryz.pinned (.plain (OpenSpec.ofChange fnExactProgramLinesSpec)) fnExactProgramLinesCard

/-- THE TIED CARD OF 'laws.FnTasks'. -/
def fnTasksCard : Claim7 := { stood := { row := fnTasksRow, standIns := [], harness := (true, "2a3d78f2f98097d62132b3658a36a07e0ad71ad39f25c5fdf2b747dd8daad44a"), looks := true }, kinds := [], alts := [], laidByText := true, laidKinds := [.data, .data, .data, .data, .sentinel, .sentinel, .pinned], laidTests := true, laidLooks := .later }
def FnTasksCardSaid : Prop := Claim7.holds Tryz.pinned (.plain (OpenSpec.ofChange fnTasksSpec)) fnTasksCard

/-- THE TIED CARD OF 'laws.FnInstrs'. -/
def fnInstrsCard : Claim7 := { stood := { row := fnInstrsRow, standIns := [], harness := (true, "2a3d78f2f98097d62132b3658a36a07e0ad71ad39f25c5fdf2b747dd8daad44a"), looks := true }, kinds := [], alts := [], laidByText := true, laidKinds := [.data, .data, .data, .data, .sentinel, .sentinel, .listed, .data, .pinned], laidTests := true, laidLooks := .later }
def FnInstrsCardSaid : Prop := Claim7.holds Tryz.pinned (.plain (OpenSpec.ofChange fnInstrsSpec)) fnInstrsCard

/-- THE SECOND FORM's CARD OF 'laws.FnExactProgramLines'. -/
def fnExactProgramLinesUptoCard : Claim7 := { stood := { row := fnExactProgramLinesUptoRow, standIns := [], harness := (true, "2a3d78f2f98097d62132b3658a36a07e0ad71ad39f25c5fdf2b747dd8daad44a"), looks := true }, kinds := [], alts := [], laidByText := true, laidKinds := [.data, .data, .data, .listed, .data], laidTests := true, laidLooks := .later }
def FnExactProgramLinesUptoCardSaid : Prop := Claim7.holds Tryz.pinned (.plain (OpenSpec.upto fnExactProgramLinesSpec)) fnExactProgramLinesUptoCard

/-- THE SECOND FORM's CARD OF 'laws.FnTasks'. -/
def fnTasksUptoCard : Claim7 := { stood := { row := fnTasksUptoRow, standIns := [], harness := (true, "2a3d78f2f98097d62132b3658a36a07e0ad71ad39f25c5fdf2b747dd8daad44a"), looks := true }, kinds := [], alts := [], laidByText := true, laidKinds := [.data, .data, .data, .data, .sentinel, .sentinel, .pinned], laidTests := true, laidLooks := .later }
def FnTasksUptoCardSaid : Prop := Claim7.holds Tryz.pinned (.plain (OpenSpec.upto fnTasksSpec)) fnTasksUptoCard

/-- THE SECOND FORM's CARD OF 'laws.FnInstrs'. -/
def fnInstrsUptoCard : Claim7 := { stood := { row := fnInstrsUptoRow, standIns := [], harness := (true, "2a3d78f2f98097d62132b3658a36a07e0ad71ad39f25c5fdf2b747dd8daad44a"), looks := true }, kinds := [], alts := [], laidByText := true, laidKinds := [.data, .data, .data, .data, .sentinel, .sentinel, .listed, .data, .pinned], laidTests := true, laidLooks := .later }
def FnInstrsUptoCardSaid : Prop := Claim7.holds Tryz.pinned (.plain (OpenSpec.upto fnInstrsSpec)) fnInstrsUptoCard
end Rows
end Go.Proofs.YtlfapnlaalnbjaaGreatDoor
