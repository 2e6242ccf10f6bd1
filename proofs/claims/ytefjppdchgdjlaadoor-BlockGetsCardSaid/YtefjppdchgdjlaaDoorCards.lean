/-
  DERIVED. GIVEN WITH THE SEED: THE CARDS: each row of YtefjppdchgdjlaaDoorRows.lean that lists a variable, with what it lists TIED to the program's text (the seventh form; the later family's looks); each row that meets fmt, with fmt's text TOLD by the authors' own Lean function (tested against real Go, not proved from fmt's source: count such statements apart). THE CARD IS WHAT COUNTS. Prove the row's statement (the work); the ties are given (YtefjppdchgdjlaaDoorTie.lean); close each card by the builder's one call (the guide's Derived/Test/ToyasCard.lean, 'card_holds'). Laid BY PROGRAM, IN A SANDBOX (cutbox-door.mjs). By AI agents, Wed Nov 11 2026. No macro, syntax, notation, axiom, sorry.
-/
import Derived.Test.YtefjppdchgdjlaaDoorRows
import GoSem.ClaimSeven
namespace Go.Proofs.YtefjppdchgdjlaaDoor
namespace Rows

/-- THE TIED CARD OF 'belvederelaw09.BlockParses'. -/
def blockParsesCard : Claim7 := { stood := { row := blockParsesRow, standIns := [], harness := (true, "93771a1f9c80018a27233e10ee948c91712ad16116684bf57d85f791e226e16a"), looks := true }, kinds := [], alts := [], laidByText := true, laidKinds := [.data, .handle, .pinned], laidTests := true, laidLooks := .later }
def BlockParsesCardSaid : Prop := Claim7.holds Tryd.pinned (.plain (OpenSpec.ofChange blockParsesSpec)) blockParsesCard

/-- THE TIED CARD OF 'belvederelaw09.BlockLines'. -/
def blockLinesCard : Claim7 := { stood := { row := blockLinesRow, standIns := [], harness := (true, "93771a1f9c80018a27233e10ee948c91712ad16116684bf57d85f791e226e16a"), looks := true }, kinds := [], alts := [], laidByText := true, laidKinds := [.data, .handle, .pinned], laidTests := true, laidLooks := .later }
def BlockLinesCardSaid : Prop := Claim7.holds Tryd.pinned (.plain (OpenSpec.ofChange blockLinesSpec)) blockLinesCard

/-- THE TIED CARD OF 'belvederelaw09.BlockGets'. -/
def blockGetsCard : Claim7 := { stood := { row := blockGetsRow, standIns := [], harness := (true, "93771a1f9c80018a27233e10ee948c91712ad16116684bf57d85f791e226e16a"), looks := true }, kinds := [], alts := [], laidByText := true, laidKinds := [.data, .handle, .pinned], laidTests := true, laidLooks := .later }
def BlockGetsCardSaid : Prop := Claim7.holds Tryd.pinned (.plain (OpenSpec.ofChange blockGetsSpec)) blockGetsCard

/-- THE SECOND FORM's CARD OF 'belvederelaw09.BlockParses'. -/
def blockParsesUptoCard : Claim7 := { stood := { row := blockParsesUptoRow, standIns := [], harness := (true, "93771a1f9c80018a27233e10ee948c91712ad16116684bf57d85f791e226e16a"), looks := true }, kinds := [], alts := [], laidByText := true, laidKinds := [.data, .handle, .pinned], laidTests := true, laidLooks := .later }
def BlockParsesUptoCardSaid : Prop := Claim7.holds Tryd.pinned (.plain (OpenSpec.upto blockParsesSpec)) blockParsesUptoCard

/-- THE SECOND FORM's CARD OF 'belvederelaw09.BlockLines'. -/
def blockLinesUptoCard : Claim7 := { stood := { row := blockLinesUptoRow, standIns := [], harness := (true, "93771a1f9c80018a27233e10ee948c91712ad16116684bf57d85f791e226e16a"), looks := true }, kinds := [], alts := [], laidByText := true, laidKinds := [.data, .handle, .pinned], laidTests := true, laidLooks := .later }
def BlockLinesUptoCardSaid : Prop := Claim7.holds Tryd.pinned (.plain (OpenSpec.upto blockLinesSpec)) blockLinesUptoCard

/-- THE SECOND FORM's CARD OF 'belvederelaw09.BlockGets'. -/
def blockGetsUptoCard : Claim7 := { stood := { row := blockGetsUptoRow, standIns := [], harness := (true, "93771a1f9c80018a27233e10ee948c91712ad16116684bf57d85f791e226e16a"), looks := true }, kinds := [], alts := [], laidByText := true, laidKinds := [.data, .handle, .pinned], laidTests := true, laidLooks := .later }
def BlockGetsUptoCardSaid : Prop := Claim7.holds Tryd.pinned (.plain (OpenSpec.upto blockGetsSpec)) blockGetsUptoCard
end Rows
end Go.Proofs.YtefjppdchgdjlaaDoor
