/-
  DERIVED. GIVEN WITH THE SEED: THE CARDS: each row of YtmcgmmmbnidpnaaDoorRows.lean that lists a variable, with what it lists TIED to the program's text (the seventh form; the later family's looks); each row that meets fmt, with fmt's text TOLD by the authors' own Lean function (tested against real Go, not proved from fmt's source: count such statements apart). THE CARD IS WHAT COUNTS. Prove the row's statement (the work); the ties are given (YtmcgmmmbnidpnaaDoorTie.lean); close each card by the builder's one call (the guide's Derived/Test/ToyasCard.lean, 'card_holds'). Laid BY PROGRAM, IN A SANDBOX (cutbox-door.mjs). By AI agents, Wed Nov 11 2026. No macro, syntax, notation, axiom, sorry.
-/
import Derived.Test.YtmcgmmmbnidpnaaDoorRows
import GoSem.ClaimSeven
namespace Go.Proofs.YtmcgmmmbnidpnaaDoor
namespace Rows

/-- THE TIED CARD OF 'laws.FnExactLogLines'. -/
def fnExactLogLinesCard : Claim7 := { stood := { row := fnExactLogLinesRow, standIns := [], harness := (true, "03f08d7ea16d3825aeec66476d0c6379cc2a041265c4b3e781b4aa52b30a0b9b"), looks := false }, kinds := [], alts := [], laidByText := true, laidKinds := [.data, .data, .data], laidTests := true, laidLooks := .later }
def FnExactLogLinesCardSaid : Prop := Claim7.holds Tryd.pinned (.plain (OpenSpec.ofChange fnExactLogLinesSpec)) fnExactLogLinesCard

/-- THE TIED CARD OF 'laws.FnExactTaskText'. -/
def fnExactTaskTextCard : Claim7 := { stood := { row := fnExactTaskTextRow, standIns := [], harness := (true, "03f08d7ea16d3825aeec66476d0c6379cc2a041265c4b3e781b4aa52b30a0b9b"), looks := false }, kinds := [], alts := [], laidByText := true, laidKinds := [.data, .data, .data], laidTests := true, laidLooks := .later }
def FnExactTaskTextCardSaid : Prop := Claim7.holds Tryd.pinned (.plain (OpenSpec.ofChange fnExactTaskTextSpec)) fnExactTaskTextCard

/-- THE TIED CARD OF 'laws.FnExactSourceText'. -/
def fnExactSourceTextCard : Claim7 := { stood := { row := fnExactSourceTextRow, standIns := [], harness := (true, "03f08d7ea16d3825aeec66476d0c6379cc2a041265c4b3e781b4aa52b30a0b9b"), looks := false }, kinds := [], alts := [], laidByText := true, laidKinds := [.data, .data, .data], laidTests := true, laidLooks := .later }
def FnExactSourceTextCardSaid : Prop := Claim7.holds Tryd.pinned (.plain (OpenSpec.ofChange fnExactSourceTextSpec)) fnExactSourceTextCard

/-- THE TIED CARD OF 'laws.FnDrop'. -/
def fnDropCard : Claim7 := { stood := { row := fnDropRow, standIns := [], harness := (true, "03f08d7ea16d3825aeec66476d0c6379cc2a041265c4b3e781b4aa52b30a0b9b"), looks := false }, kinds := [], alts := [], laidByText := true, laidKinds := [.data, .data, .data], laidTests := true, laidLooks := .later }
def FnDropCardSaid : Prop := Claim7.holds Tryd.pinned (.plain (OpenSpec.ofChange fnDropSpec)) fnDropCard

/-- THE TIED CARD OF 'laws.FnExactDataLines'. -/
def fnExactDataLinesCard : Claim7 := { stood := { row := fnExactDataLinesRow, standIns := [], harness := (true, "03f08d7ea16d3825aeec66476d0c6379cc2a041265c4b3e781b4aa52b30a0b9b"), looks := false }, kinds := [], alts := [], laidByText := true, laidKinds := [.data, .data, .data], laidTests := true, laidLooks := .later }
def FnExactDataLinesCardSaid : Prop := Claim7.holds Tryd.pinned (.plain (OpenSpec.ofChange fnExactDataLinesSpec)) fnExactDataLinesCard

/-- THE SECOND FORM's CARD OF 'laws.FnExactLogLines'. -/
def fnExactLogLinesUptoCard : Claim7 := { stood := { row := fnExactLogLinesUptoRow, standIns := [], harness := (true, "03f08d7ea16d3825aeec66476d0c6379cc2a041265c4b3e781b4aa52b30a0b9b"), looks := false }, kinds := [], alts := [], laidByText := true, laidKinds := [.data, .data, .data], laidTests := true, laidLooks := .later }
def FnExactLogLinesUptoCardSaid : Prop := Claim7.holds Tryd.pinned (.plain (OpenSpec.upto fnExactLogLinesSpec)) fnExactLogLinesUptoCard

/-- THE SECOND FORM's CARD OF 'laws.FnExactTaskText'. -/
def fnExactTaskTextUptoCard : Claim7 := { stood := { row := fnExactTaskTextUptoRow, standIns := [], harness := (true, "03f08d7ea16d3825aeec66476d0c6379cc2a041265c4b3e781b4aa52b30a0b9b"), looks := false }, kinds := [], alts := [], laidByText := true, laidKinds := [.data, .data, .data], laidTests := true, laidLooks := .later }
def FnExactTaskTextUptoCardSaid : Prop := Claim7.holds Tryd.pinned (.plain (OpenSpec.upto fnExactTaskTextSpec)) fnExactTaskTextUptoCard

/-- THE SECOND FORM's CARD OF 'laws.FnExactSourceText'. -/
def fnExactSourceTextUptoCard : Claim7 := { stood := { row := fnExactSourceTextUptoRow, standIns := [], harness := (true, "03f08d7ea16d3825aeec66476d0c6379cc2a041265c4b3e781b4aa52b30a0b9b"), looks := false }, kinds := [], alts := [], laidByText := true, laidKinds := [.data, .data, .data], laidTests := true, laidLooks := .later }
def FnExactSourceTextUptoCardSaid : Prop := Claim7.holds Tryd.pinned (.plain (OpenSpec.upto fnExactSourceTextSpec)) fnExactSourceTextUptoCard

/-- THE SECOND FORM's CARD OF 'laws.FnDrop'. -/
def fnDropUptoCard : Claim7 := { stood := { row := fnDropUptoRow, standIns := [], harness := (true, "03f08d7ea16d3825aeec66476d0c6379cc2a041265c4b3e781b4aa52b30a0b9b"), looks := false }, kinds := [], alts := [], laidByText := true, laidKinds := [.data, .data, .data], laidTests := true, laidLooks := .later }
def FnDropUptoCardSaid : Prop := Claim7.holds Tryd.pinned (.plain (OpenSpec.upto fnDropSpec)) fnDropUptoCard

/-- THE SECOND FORM's CARD OF 'laws.FnExactDataLines'. -/
def fnExactDataLinesUptoCard : Claim7 := { stood := { row := fnExactDataLinesUptoRow, standIns := [], harness := (true, "03f08d7ea16d3825aeec66476d0c6379cc2a041265c4b3e781b4aa52b30a0b9b"), looks := false }, kinds := [], alts := [], laidByText := true, laidKinds := [.data, .data, .data], laidTests := true, laidLooks := .later }
def FnExactDataLinesUptoCardSaid : Prop := Claim7.holds Tryd.pinned (.plain (OpenSpec.upto fnExactDataLinesSpec)) fnExactDataLinesUptoCard
end Rows
end Go.Proofs.YtmcgmmmbnidpnaaDoor
