/-
  DERIVED. GIVEN WITH THE SEED: THE CARDS: each row of YtebmjmohhpkonaaDoorRows.lean that lists a variable, with what it lists TIED to the program's text (the seventh form; the later family's looks); each row that meets fmt, with fmt's text TOLD by the authors' own Lean function (tested against real Go, not proved from fmt's source: count such statements apart). THE CARD IS WHAT COUNTS. Prove the row's statement (the work); the ties are given (YtebmjmohhpkonaaDoorTie.lean); close each card by the builder's one call (the guide's Derived/Test/ToyasCard.lean, 'card_holds'). Laid BY PROGRAM, IN A SANDBOX (cutbox-door.mjs). By AI agents, Wed Nov 11 2026. No macro, syntax, notation, axiom, sorry.
-/
import Derived.Test.YtebmjmohhpkonaaDoorRows
import GoSem.ClaimSeven
namespace Go.Proofs.YtebmjmohhpkonaaDoor
namespace Rows

/-- THE TIED CARD OF 'vellumlaw04.LinesEnds'. -/
def linesEndsCard : Claim7 := { stood := { row := linesEndsRow, standIns := [], harness := (true, "f3b0f3408dbc2280bbcc77b85cbff70e513e3499f68734f30d9ece47b8d0b487"), looks := false }, kinds := [], alts := [], laidByText := true, laidKinds := [.data, .pinned], laidTests := true, laidLooks := .later }
def LinesEndsCardSaid : Prop := Claim7.holds Tryd.pinned (.plain (OpenSpec.ofChange linesEndsSpec)) linesEndsCard

/-- THE TIED CARD OF 'vellumlaw04.LinesWheres'. -/
def linesWheresCard : Claim7 := { stood := { row := linesWheresRow, standIns := [], harness := (true, "f3b0f3408dbc2280bbcc77b85cbff70e513e3499f68734f30d9ece47b8d0b487"), looks := false }, kinds := [], alts := [], laidByText := true, laidKinds := [.data, .pinned], laidTests := true, laidLooks := .later }
def LinesWheresCardSaid : Prop := Claim7.holds Tryd.pinned (.plain (OpenSpec.ofChange linesWheresSpec)) linesWheresCard

/-- THE TIED CARD OF 'vellumlaw04.LinesPlaces'. -/
def linesPlacesCard : Claim7 := { stood := { row := linesPlacesRow, standIns := [], harness := (true, "f3b0f3408dbc2280bbcc77b85cbff70e513e3499f68734f30d9ece47b8d0b487"), looks := false }, kinds := [], alts := [], laidByText := true, laidKinds := [.data, .pinned], laidTests := true, laidLooks := .later }
def LinesPlacesCardSaid : Prop := Claim7.holds Tryd.pinned (.plain (OpenSpec.ofChange linesPlacesSpec)) linesPlacesCard

/-- THE TIED CARD OF 'vellumlaw04.LinesBack'. -/
def linesBackCard : Claim7 := { stood := { row := linesBackRow, standIns := [], harness := (true, "f3b0f3408dbc2280bbcc77b85cbff70e513e3499f68734f30d9ece47b8d0b487"), looks := false }, kinds := [], alts := [], laidByText := true, laidKinds := [.data, .pinned], laidTests := true, laidLooks := .later }
def LinesBackCardSaid : Prop := Claim7.holds Tryd.pinned (.plain (OpenSpec.ofChange linesBackSpec)) linesBackCard

/-- THE TIED CARD OF 'vellumlaw04.LinesAll'. -/
def linesAllCard : Claim7 := { stood := { row := linesAllRow, standIns := [], harness := (true, "f3b0f3408dbc2280bbcc77b85cbff70e513e3499f68734f30d9ece47b8d0b487"), looks := false }, kinds := [], alts := [], laidByText := true, laidKinds := [.data, .pinned], laidTests := true, laidLooks := .later }
def LinesAllCardSaid : Prop := Claim7.holds Tryd.pinned (.plain (OpenSpec.ofChange linesAllSpec)) linesAllCard

/-- THE TIED CARD OF 'vellumlaw04.LinesWhole'. -/
def linesWholeCard : Claim7 := { stood := { row := linesWholeRow, standIns := [], harness := (true, "f3b0f3408dbc2280bbcc77b85cbff70e513e3499f68734f30d9ece47b8d0b487"), looks := false }, kinds := [], alts := [], laidByText := true, laidKinds := [.data, .pinned], laidTests := true, laidLooks := .later }
def LinesWholeCardSaid : Prop := Claim7.holds Tryd.pinned (.plain (OpenSpec.ofChange linesWholeSpec)) linesWholeCard

/-- THE TIED CARD OF 'vellumlaw04.LinesSeam'. -/
def linesSeamCard : Claim7 := { stood := { row := linesSeamRow, standIns := [], harness := (true, "f3b0f3408dbc2280bbcc77b85cbff70e513e3499f68734f30d9ece47b8d0b487"), looks := false }, kinds := [], alts := [], laidByText := true, laidKinds := [.data, .pinned], laidTests := true, laidLooks := .later }
def LinesSeamCardSaid : Prop := Claim7.holds Tryd.pinned (.plain (OpenSpec.ofChange linesSeamSpec)) linesSeamCard

/-- THE TIED CARD OF 'vellumlaw04.LinesKnown'. -/
def linesKnownCard : Claim7 := { stood := { row := linesKnownRow, standIns := [], harness := (true, "f3b0f3408dbc2280bbcc77b85cbff70e513e3499f68734f30d9ece47b8d0b487"), looks := false }, kinds := [], alts := [], laidByText := true, laidKinds := [.data, .pinned], laidTests := true, laidLooks := .later }
def LinesKnownCardSaid : Prop := Claim7.holds Tryd.pinned (.plain (OpenSpec.ofChange linesKnownSpec)) linesKnownCard

/-- THE SECOND FORM's CARD OF 'vellumlaw04.LinesEnds'. -/
def linesEndsUptoCard : Claim7 := { stood := { row := linesEndsUptoRow, standIns := [], harness := (true, "f3b0f3408dbc2280bbcc77b85cbff70e513e3499f68734f30d9ece47b8d0b487"), looks := false }, kinds := [], alts := [], laidByText := true, laidKinds := [.data, .pinned], laidTests := true, laidLooks := .later }
def LinesEndsUptoCardSaid : Prop := Claim7.holds Tryd.pinned (.plain (OpenSpec.upto linesEndsSpec)) linesEndsUptoCard

/-- THE SECOND FORM's CARD OF 'vellumlaw04.LinesWheres'. -/
def linesWheresUptoCard : Claim7 := { stood := { row := linesWheresUptoRow, standIns := [], harness := (true, "f3b0f3408dbc2280bbcc77b85cbff70e513e3499f68734f30d9ece47b8d0b487"), looks := false }, kinds := [], alts := [], laidByText := true, laidKinds := [.data, .pinned], laidTests := true, laidLooks := .later }
def LinesWheresUptoCardSaid : Prop := Claim7.holds Tryd.pinned (.plain (OpenSpec.upto linesWheresSpec)) linesWheresUptoCard

/-- THE SECOND FORM's CARD OF 'vellumlaw04.LinesPlaces'. -/
def linesPlacesUptoCard : Claim7 := { stood := { row := linesPlacesUptoRow, standIns := [], harness := (true, "f3b0f3408dbc2280bbcc77b85cbff70e513e3499f68734f30d9ece47b8d0b487"), looks := false }, kinds := [], alts := [], laidByText := true, laidKinds := [.data, .pinned], laidTests := true, laidLooks := .later }
def LinesPlacesUptoCardSaid : Prop := Claim7.holds Tryd.pinned (.plain (OpenSpec.upto linesPlacesSpec)) linesPlacesUptoCard

/-- THE SECOND FORM's CARD OF 'vellumlaw04.LinesBack'. -/
def linesBackUptoCard : Claim7 := { stood := { row := linesBackUptoRow, standIns := [], harness := (true, "f3b0f3408dbc2280bbcc77b85cbff70e513e3499f68734f30d9ece47b8d0b487"), looks := false }, kinds := [], alts := [], laidByText := true, laidKinds := [.data, .pinned], laidTests := true, laidLooks := .later }
def LinesBackUptoCardSaid : Prop := Claim7.holds Tryd.pinned (.plain (OpenSpec.upto linesBackSpec)) linesBackUptoCard

/-- THE SECOND FORM's CARD OF 'vellumlaw04.LinesAll'. -/
def linesAllUptoCard : Claim7 := { stood := { row := linesAllUptoRow, standIns := [], harness := (true, "f3b0f3408dbc2280bbcc77b85cbff70e513e3499f68734f30d9ece47b8d0b487"), looks := false }, kinds := [], alts := [], laidByText := true, laidKinds := [.data, .pinned], laidTests := true, laidLooks := .later }
def LinesAllUptoCardSaid : Prop := Claim7.holds Tryd.pinned (.plain (OpenSpec.upto linesAllSpec)) linesAllUptoCard

/-- THE SECOND FORM's CARD OF 'vellumlaw04.LinesWhole'. -/
def linesWholeUptoCard : Claim7 := { stood := { row := linesWholeUptoRow, standIns := [], harness := (true, "f3b0f3408dbc2280bbcc77b85cbff70e513e3499f68734f30d9ece47b8d0b487"), looks := false }, kinds := [], alts := [], laidByText := true, laidKinds := [.data, .pinned], laidTests := true, laidLooks := .later }
def LinesWholeUptoCardSaid : Prop := Claim7.holds Tryd.pinned (.plain (OpenSpec.upto linesWholeSpec)) linesWholeUptoCard

/-- THE SECOND FORM's CARD OF 'vellumlaw04.LinesSeam'. -/
def linesSeamUptoCard : Claim7 := { stood := { row := linesSeamUptoRow, standIns := [], harness := (true, "f3b0f3408dbc2280bbcc77b85cbff70e513e3499f68734f30d9ece47b8d0b487"), looks := false }, kinds := [], alts := [], laidByText := true, laidKinds := [.data, .pinned], laidTests := true, laidLooks := .later }
def LinesSeamUptoCardSaid : Prop := Claim7.holds Tryd.pinned (.plain (OpenSpec.upto linesSeamSpec)) linesSeamUptoCard

/-- THE SECOND FORM's CARD OF 'vellumlaw04.LinesKnown'. -/
def linesKnownUptoCard : Claim7 := { stood := { row := linesKnownUptoRow, standIns := [], harness := (true, "f3b0f3408dbc2280bbcc77b85cbff70e513e3499f68734f30d9ece47b8d0b487"), looks := false }, kinds := [], alts := [], laidByText := true, laidKinds := [.data, .pinned], laidTests := true, laidLooks := .later }
def LinesKnownUptoCardSaid : Prop := Claim7.holds Tryd.pinned (.plain (OpenSpec.upto linesKnownSpec)) linesKnownUptoCard
end Rows
end Go.Proofs.YtebmjmohhpkonaaDoor
