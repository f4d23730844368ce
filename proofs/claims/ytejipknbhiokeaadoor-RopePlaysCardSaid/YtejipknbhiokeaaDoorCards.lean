/-
  DERIVED. GIVEN WITH THE SEED: THE CARDS: each row of YtejipknbhiokeaaDoorRows.lean that lists a variable, with what it lists TIED to the program's text (the seventh form; the later family's looks); each row that meets fmt, with fmt's text TOLD by the authors' own Lean function (tested against real Go, not proved from fmt's source: count such statements apart). THE CARD IS WHAT COUNTS. Prove the row's statement (the work); the ties are given (YtejipknbhiokeaaDoorTie.lean); close each card by the builder's one call (the guide's Derived/Test/ToyasCard.lean, 'card_holds'). Laid BY PROGRAM, IN A SANDBOX (cutbox-door.mjs). By AI agents, Wed Nov 11 2026. No macro, syntax, notation, axiom, sorry.
-/
import Derived.Test.YtejipknbhiokeaaDoorRows
import GoSem.ClaimSeven
namespace Go.Proofs.YtejipknbhiokeaaDoor
namespace Rows

/-- THE TIED CARD OF 'indenturelaw01.UtfChars'. -/
def utfCharsCard : Claim7 := { stood := { row := utfCharsRow, standIns := [], harness := (true, "7db9955c6a9eda2396cf9390064b4a5209f0a92a893296d0be153cce21eb187a"), looks := false }, kinds := [], alts := [], laidByText := true, laidKinds := [.data], laidTests := true, laidLooks := .later }
def UtfCharsCardSaid : Prop := Claim7.holds Tryd.pinned (.plain (OpenSpec.ofChange utfCharsSpec)) utfCharsCard

/-- THE TIED CARD OF 'indenturelaw01.UtfPuts'. -/
def utfPutsCard : Claim7 := { stood := { row := utfPutsRow, standIns := [], harness := (true, "7db9955c6a9eda2396cf9390064b4a5209f0a92a893296d0be153cce21eb187a"), looks := false }, kinds := [], alts := [], laidByText := true, laidKinds := [.data], laidTests := true, laidLooks := .later }
def UtfPutsCardSaid : Prop := Claim7.holds Tryd.pinned (.plain (OpenSpec.ofChange utfPutsSpec)) utfPutsCard

/-- THE TIED CARD OF 'indenturelaw01.UtfBack'. -/
def utfBackCard : Claim7 := { stood := { row := utfBackRow, standIns := [], harness := (true, "7db9955c6a9eda2396cf9390064b4a5209f0a92a893296d0be153cce21eb187a"), looks := false }, kinds := [], alts := [], laidByText := true, laidKinds := [.data], laidTests := true, laidLooks := .later }
def UtfBackCardSaid : Prop := Claim7.holds Tryd.pinned (.plain (OpenSpec.ofChange utfBackSpec)) utfBackCard

/-- THE TIED CARD OF 'indenturelaw01.UtfSteps'. -/
def utfStepsCard : Claim7 := { stood := { row := utfStepsRow, standIns := [], harness := (true, "7db9955c6a9eda2396cf9390064b4a5209f0a92a893296d0be153cce21eb187a"), looks := false }, kinds := [], alts := [], laidByText := true, laidKinds := [.data], laidTests := true, laidLooks := .later }
def UtfStepsCardSaid : Prop := Claim7.holds Tryd.pinned (.plain (OpenSpec.ofChange utfStepsSpec)) utfStepsCard

/-- THE TIED CARD OF 'indenturelaw02.RopeNil'. -/
def ropeNilCard : Claim7 := { stood := { row := ropeNilRow, standIns := [], harness := (true, "7db9955c6a9eda2396cf9390064b4a5209f0a92a893296d0be153cce21eb187a"), looks := false }, kinds := [], alts := [], laidByText := true, laidKinds := [.data], laidTests := true, laidLooks := .later }
def RopeNilCardSaid : Prop := Claim7.holds Tryd.pinned (.plain (OpenSpec.ofChange ropeNilSpec)) ropeNilCard

/-- THE TIED CARD OF 'indenturelaw01.UtfWhole'. -/
def utfWholeCard : Claim7 := { stood := { row := utfWholeRow, standIns := [], harness := (true, "7db9955c6a9eda2396cf9390064b4a5209f0a92a893296d0be153cce21eb187a"), looks := false }, kinds := [], alts := [], laidByText := true, laidKinds := [.data], laidTests := true, laidLooks := .later }
def UtfWholeCardSaid : Prop := Claim7.holds Tryd.pinned (.plain (OpenSpec.ofChange utfWholeSpec)) utfWholeCard

/-- THE TIED CARD OF 'indenturelaw03.PlaceBack'. -/
def placeBackCard : Claim7 := { stood := { row := placeBackRow, standIns := [], harness := (true, "7db9955c6a9eda2396cf9390064b4a5209f0a92a893296d0be153cce21eb187a"), looks := false }, kinds := [], alts := [], laidByText := true, laidKinds := [.data], laidTests := true, laidLooks := .later }
def PlaceBackCardSaid : Prop := Claim7.holds Tryd.pinned (.plain (OpenSpec.ofChange placeBackSpec)) placeBackCard

/-- THE TIED CARD OF 'indenturelaw01.UtfJoins'. -/
def utfJoinsCard : Claim7 := { stood := { row := utfJoinsRow, standIns := [], harness := (true, "7db9955c6a9eda2396cf9390064b4a5209f0a92a893296d0be153cce21eb187a"), looks := false }, kinds := [], alts := [], laidByText := true, laidKinds := [.data], laidTests := true, laidLooks := .later }
def UtfJoinsCardSaid : Prop := Claim7.holds Tryd.pinned (.plain (OpenSpec.ofChange utfJoinsSpec)) utfJoinsCard

/-- THE TIED CARD OF 'indenturelaw02.RopeFull'. -/
def ropeFullCard : Claim7 := { stood := { row := ropeFullRow, standIns := [], harness := (true, "7db9955c6a9eda2396cf9390064b4a5209f0a92a893296d0be153cce21eb187a"), looks := false }, kinds := [], alts := [], laidByText := true, laidKinds := [.data], laidTests := true, laidLooks := .later }
def RopeFullCardSaid : Prop := Claim7.holds Tryd.pinned (.plain (OpenSpec.ofChange ropeFullSpec)) ropeFullCard

/-- THE TIED CARD OF 'indenturelaw02.RopeLines'. -/
def ropeLinesCard : Claim7 := { stood := { row := ropeLinesRow, standIns := [], harness := (true, "7db9955c6a9eda2396cf9390064b4a5209f0a92a893296d0be153cce21eb187a"), looks := false }, kinds := [], alts := [], laidByText := true, laidKinds := [.data], laidTests := true, laidLooks := .later }
def RopeLinesCardSaid : Prop := Claim7.holds Tryd.pinned (.plain (OpenSpec.ofChange ropeLinesSpec)) ropeLinesCard

/-- THE TIED CARD OF 'indenturelaw03.PlaceTells'. -/
def placeTellsCard : Claim7 := { stood := { row := placeTellsRow, standIns := [], harness := (true, "7db9955c6a9eda2396cf9390064b4a5209f0a92a893296d0be153cce21eb187a"), looks := false }, kinds := [], alts := [], laidByText := true, laidKinds := [.data], laidTests := true, laidLooks := .later }
def PlaceTellsCardSaid : Prop := Claim7.holds Tryd.pinned (.plain (OpenSpec.ofChange placeTellsSpec)) placeTellsCard

/-- THE TIED CARD OF 'indenturelaw03.PlaceNil'. -/
def placeNilCard : Claim7 := { stood := { row := placeNilRow, standIns := [], harness := (true, "7db9955c6a9eda2396cf9390064b4a5209f0a92a893296d0be153cce21eb187a"), looks := false }, kinds := [], alts := [], laidByText := true, laidKinds := [.data], laidTests := true, laidLooks := .later }
def PlaceNilCardSaid : Prop := Claim7.holds Tryd.pinned (.plain (OpenSpec.ofChange placeNilSpec)) placeNilCard

/-- THE TIED CARD OF 'indenturelaw03.PlaceChars'. -/
def placeCharsCard : Claim7 := { stood := { row := placeCharsRow, standIns := [], harness := (true, "7db9955c6a9eda2396cf9390064b4a5209f0a92a893296d0be153cce21eb187a"), looks := false }, kinds := [], alts := [], laidByText := true, laidKinds := [.data], laidTests := true, laidLooks := .later }
def PlaceCharsCardSaid : Prop := Claim7.holds Tryd.pinned (.plain (OpenSpec.ofChange placeCharsSpec)) placeCharsCard

/-- THE TIED CARD OF 'indenturelaw02.RopeOne'. -/
def ropeOneCard : Claim7 := { stood := { row := ropeOneRow, standIns := [], harness := (true, "7db9955c6a9eda2396cf9390064b4a5209f0a92a893296d0be153cce21eb187a"), looks := false }, kinds := [], alts := [], laidByText := true, laidKinds := [.data], laidTests := true, laidLooks := .later }
def RopeOneCardSaid : Prop := Claim7.holds Tryd.pinned (.plain (OpenSpec.ofChange ropeOneSpec)) ropeOneCard

/-- THE TIED CARD OF 'indenturelaw02.RopeTells'. -/
def ropeTellsCard : Claim7 := { stood := { row := ropeTellsRow, standIns := [], harness := (true, "7db9955c6a9eda2396cf9390064b4a5209f0a92a893296d0be153cce21eb187a"), looks := false }, kinds := [], alts := [], laidByText := true, laidKinds := [.data], laidTests := true, laidLooks := .later }
def RopeTellsCardSaid : Prop := Claim7.holds Tryd.pinned (.plain (OpenSpec.ofChange ropeTellsSpec)) ropeTellsCard

/-- THE TIED CARD OF 'indenturelaw02.RopePlays'. -/
def ropePlaysCard : Claim7 := { stood := { row := ropePlaysRow, standIns := [], harness := (true, "7db9955c6a9eda2396cf9390064b4a5209f0a92a893296d0be153cce21eb187a"), looks := false }, kinds := [], alts := [], laidByText := true, laidKinds := [.data], laidTests := true, laidLooks := .later }
def RopePlaysCardSaid : Prop := Claim7.holds Tryd.pinned (.plain (OpenSpec.ofChange ropePlaysSpec)) ropePlaysCard

/-- THE SECOND FORM's CARD OF 'indenturelaw01.UtfChars'. -/
def utfCharsUptoCard : Claim7 := { stood := { row := utfCharsUptoRow, standIns := [], harness := (true, "7db9955c6a9eda2396cf9390064b4a5209f0a92a893296d0be153cce21eb187a"), looks := false }, kinds := [], alts := [], laidByText := true, laidKinds := [.data], laidTests := true, laidLooks := .later }
def UtfCharsUptoCardSaid : Prop := Claim7.holds Tryd.pinned (.plain (OpenSpec.upto utfCharsSpec)) utfCharsUptoCard

/-- THE SECOND FORM's CARD OF 'indenturelaw01.UtfPuts'. -/
def utfPutsUptoCard : Claim7 := { stood := { row := utfPutsUptoRow, standIns := [], harness := (true, "7db9955c6a9eda2396cf9390064b4a5209f0a92a893296d0be153cce21eb187a"), looks := false }, kinds := [], alts := [], laidByText := true, laidKinds := [.data], laidTests := true, laidLooks := .later }
def UtfPutsUptoCardSaid : Prop := Claim7.holds Tryd.pinned (.plain (OpenSpec.upto utfPutsSpec)) utfPutsUptoCard

/-- THE SECOND FORM's CARD OF 'indenturelaw01.UtfBack'. -/
def utfBackUptoCard : Claim7 := { stood := { row := utfBackUptoRow, standIns := [], harness := (true, "7db9955c6a9eda2396cf9390064b4a5209f0a92a893296d0be153cce21eb187a"), looks := false }, kinds := [], alts := [], laidByText := true, laidKinds := [.data], laidTests := true, laidLooks := .later }
def UtfBackUptoCardSaid : Prop := Claim7.holds Tryd.pinned (.plain (OpenSpec.upto utfBackSpec)) utfBackUptoCard

/-- THE SECOND FORM's CARD OF 'indenturelaw01.UtfSteps'. -/
def utfStepsUptoCard : Claim7 := { stood := { row := utfStepsUptoRow, standIns := [], harness := (true, "7db9955c6a9eda2396cf9390064b4a5209f0a92a893296d0be153cce21eb187a"), looks := false }, kinds := [], alts := [], laidByText := true, laidKinds := [.data], laidTests := true, laidLooks := .later }
def UtfStepsUptoCardSaid : Prop := Claim7.holds Tryd.pinned (.plain (OpenSpec.upto utfStepsSpec)) utfStepsUptoCard

/-- THE SECOND FORM's CARD OF 'indenturelaw02.RopeNil'. -/
def ropeNilUptoCard : Claim7 := { stood := { row := ropeNilUptoRow, standIns := [], harness := (true, "7db9955c6a9eda2396cf9390064b4a5209f0a92a893296d0be153cce21eb187a"), looks := false }, kinds := [], alts := [], laidByText := true, laidKinds := [.data], laidTests := true, laidLooks := .later }
def RopeNilUptoCardSaid : Prop := Claim7.holds Tryd.pinned (.plain (OpenSpec.upto ropeNilSpec)) ropeNilUptoCard

/-- THE SECOND FORM's CARD OF 'indenturelaw01.UtfWhole'. -/
def utfWholeUptoCard : Claim7 := { stood := { row := utfWholeUptoRow, standIns := [], harness := (true, "7db9955c6a9eda2396cf9390064b4a5209f0a92a893296d0be153cce21eb187a"), looks := false }, kinds := [], alts := [], laidByText := true, laidKinds := [.data], laidTests := true, laidLooks := .later }
def UtfWholeUptoCardSaid : Prop := Claim7.holds Tryd.pinned (.plain (OpenSpec.upto utfWholeSpec)) utfWholeUptoCard

/-- THE SECOND FORM's CARD OF 'indenturelaw03.PlaceBack'. -/
def placeBackUptoCard : Claim7 := { stood := { row := placeBackUptoRow, standIns := [], harness := (true, "7db9955c6a9eda2396cf9390064b4a5209f0a92a893296d0be153cce21eb187a"), looks := false }, kinds := [], alts := [], laidByText := true, laidKinds := [.data], laidTests := true, laidLooks := .later }
def PlaceBackUptoCardSaid : Prop := Claim7.holds Tryd.pinned (.plain (OpenSpec.upto placeBackSpec)) placeBackUptoCard

/-- THE SECOND FORM's CARD OF 'indenturelaw01.UtfJoins'. -/
def utfJoinsUptoCard : Claim7 := { stood := { row := utfJoinsUptoRow, standIns := [], harness := (true, "7db9955c6a9eda2396cf9390064b4a5209f0a92a893296d0be153cce21eb187a"), looks := false }, kinds := [], alts := [], laidByText := true, laidKinds := [.data], laidTests := true, laidLooks := .later }
def UtfJoinsUptoCardSaid : Prop := Claim7.holds Tryd.pinned (.plain (OpenSpec.upto utfJoinsSpec)) utfJoinsUptoCard

/-- THE SECOND FORM's CARD OF 'indenturelaw02.RopeFull'. -/
def ropeFullUptoCard : Claim7 := { stood := { row := ropeFullUptoRow, standIns := [], harness := (true, "7db9955c6a9eda2396cf9390064b4a5209f0a92a893296d0be153cce21eb187a"), looks := false }, kinds := [], alts := [], laidByText := true, laidKinds := [.data], laidTests := true, laidLooks := .later }
def RopeFullUptoCardSaid : Prop := Claim7.holds Tryd.pinned (.plain (OpenSpec.upto ropeFullSpec)) ropeFullUptoCard

/-- THE SECOND FORM's CARD OF 'indenturelaw02.RopeLines'. -/
def ropeLinesUptoCard : Claim7 := { stood := { row := ropeLinesUptoRow, standIns := [], harness := (true, "7db9955c6a9eda2396cf9390064b4a5209f0a92a893296d0be153cce21eb187a"), looks := false }, kinds := [], alts := [], laidByText := true, laidKinds := [.data], laidTests := true, laidLooks := .later }
def RopeLinesUptoCardSaid : Prop := Claim7.holds Tryd.pinned (.plain (OpenSpec.upto ropeLinesSpec)) ropeLinesUptoCard

/-- THE SECOND FORM's CARD OF 'indenturelaw03.PlaceTells'. -/
def placeTellsUptoCard : Claim7 := { stood := { row := placeTellsUptoRow, standIns := [], harness := (true, "7db9955c6a9eda2396cf9390064b4a5209f0a92a893296d0be153cce21eb187a"), looks := false }, kinds := [], alts := [], laidByText := true, laidKinds := [.data], laidTests := true, laidLooks := .later }
def PlaceTellsUptoCardSaid : Prop := Claim7.holds Tryd.pinned (.plain (OpenSpec.upto placeTellsSpec)) placeTellsUptoCard

/-- THE SECOND FORM's CARD OF 'indenturelaw03.PlaceNil'. -/
def placeNilUptoCard : Claim7 := { stood := { row := placeNilUptoRow, standIns := [], harness := (true, "7db9955c6a9eda2396cf9390064b4a5209f0a92a893296d0be153cce21eb187a"), looks := false }, kinds := [], alts := [], laidByText := true, laidKinds := [.data], laidTests := true, laidLooks := .later }
def PlaceNilUptoCardSaid : Prop := Claim7.holds Tryd.pinned (.plain (OpenSpec.upto placeNilSpec)) placeNilUptoCard

/-- THE SECOND FORM's CARD OF 'indenturelaw03.PlaceChars'. -/
def placeCharsUptoCard : Claim7 := { stood := { row := placeCharsUptoRow, standIns := [], harness := (true, "7db9955c6a9eda2396cf9390064b4a5209f0a92a893296d0be153cce21eb187a"), looks := false }, kinds := [], alts := [], laidByText := true, laidKinds := [.data], laidTests := true, laidLooks := .later }
def PlaceCharsUptoCardSaid : Prop := Claim7.holds Tryd.pinned (.plain (OpenSpec.upto placeCharsSpec)) placeCharsUptoCard

/-- THE SECOND FORM's CARD OF 'indenturelaw02.RopeOne'. -/
def ropeOneUptoCard : Claim7 := { stood := { row := ropeOneUptoRow, standIns := [], harness := (true, "7db9955c6a9eda2396cf9390064b4a5209f0a92a893296d0be153cce21eb187a"), looks := false }, kinds := [], alts := [], laidByText := true, laidKinds := [.data], laidTests := true, laidLooks := .later }
def RopeOneUptoCardSaid : Prop := Claim7.holds Tryd.pinned (.plain (OpenSpec.upto ropeOneSpec)) ropeOneUptoCard

/-- THE SECOND FORM's CARD OF 'indenturelaw02.RopeTells'. -/
def ropeTellsUptoCard : Claim7 := { stood := { row := ropeTellsUptoRow, standIns := [], harness := (true, "7db9955c6a9eda2396cf9390064b4a5209f0a92a893296d0be153cce21eb187a"), looks := false }, kinds := [], alts := [], laidByText := true, laidKinds := [.data], laidTests := true, laidLooks := .later }
def RopeTellsUptoCardSaid : Prop := Claim7.holds Tryd.pinned (.plain (OpenSpec.upto ropeTellsSpec)) ropeTellsUptoCard

/-- THE SECOND FORM's CARD OF 'indenturelaw02.RopePlays'. -/
def ropePlaysUptoCard : Claim7 := { stood := { row := ropePlaysUptoRow, standIns := [], harness := (true, "7db9955c6a9eda2396cf9390064b4a5209f0a92a893296d0be153cce21eb187a"), looks := false }, kinds := [], alts := [], laidByText := true, laidKinds := [.data], laidTests := true, laidLooks := .later }
def RopePlaysUptoCardSaid : Prop := Claim7.holds Tryd.pinned (.plain (OpenSpec.upto ropePlaysSpec)) ropePlaysUptoCard
end Rows
end Go.Proofs.YtejipknbhiokeaaDoor
