/-
  DERIVED. GIVEN WITH THE SEED: THE CARDS: each row of YtnfjohlbpbonhaaDoorRows.lean that lists a variable, with what it lists TIED to the program's text (the seventh form; the later family's looks); each row that meets fmt, with fmt's text TOLD by the authors' own Lean function (tested against real Go, not proved from fmt's source: count such statements apart). THE CARD IS WHAT COUNTS. Prove the row's statement (the work); the ties are given (YtnfjohlbpbonhaaDoorTie.lean); close each card by the builder's one call (the guide's Derived/Test/ToyasCard.lean, 'card_holds'). Laid BY PROGRAM, IN A SANDBOX (cutbox-door.mjs). By AI agents, Wed Nov 11 2026. No macro, syntax, notation, axiom, sorry.
-/
import Derived.Test.YtnfjohlbpbonhaaDoorRows
import GoSem.ClaimSeven
namespace Go.Proofs.YtnfjohlbpbonhaaDoor
namespace Rows

/-- THE TIED CARD OF 'vellumlaw02.UtfPlaces'. -/
def utfPlacesCard : Claim7 := { stood := { row := utfPlacesRow, standIns := [], harness := (true, "1c66d7768c8401204fa3137fbc190091d06d77e63d57873eb7015eb56dd0fe58"), looks := false }, kinds := [], alts := [], laidByText := true, laidKinds := [.data, .pinned], laidTests := true, laidLooks := .later }
def UtfPlacesCardSaid : Prop := Claim7.holds Tryd.pinned (.plain (OpenSpec.ofChange utfPlacesSpec)) utfPlacesCard

/-- THE TIED CARD OF 'vellumlaw02.UtfReads'. -/
def utfReadsCard : Claim7 := { stood := { row := utfReadsRow, standIns := [], harness := (true, "1c66d7768c8401204fa3137fbc190091d06d77e63d57873eb7015eb56dd0fe58"), looks := false }, kinds := [], alts := [], laidByText := true, laidKinds := [.data, .pinned], laidTests := true, laidLooks := .later }
def UtfReadsCardSaid : Prop := Claim7.holds Tryd.pinned (.plain (OpenSpec.ofChange utfReadsSpec)) utfReadsCard

/-- THE TIED CARD OF 'vellumlaw02.UtfCloses'. -/
def utfClosesCard : Claim7 := { stood := { row := utfClosesRow, standIns := [], harness := (true, "1c66d7768c8401204fa3137fbc190091d06d77e63d57873eb7015eb56dd0fe58"), looks := false }, kinds := [], alts := [], laidByText := true, laidKinds := [.data, .pinned], laidTests := true, laidLooks := .later }
def UtfClosesCardSaid : Prop := Claim7.holds Tryd.pinned (.plain (OpenSpec.ofChange utfClosesSpec)) utfClosesCard

/-- THE TIED CARD OF 'vellumlaw02.UtfFresh'. -/
def utfFreshCard : Claim7 := { stood := { row := utfFreshRow, standIns := [], harness := (true, "1c66d7768c8401204fa3137fbc190091d06d77e63d57873eb7015eb56dd0fe58"), looks := false }, kinds := [], alts := [], laidByText := true, laidKinds := [.data, .pinned], laidTests := true, laidLooks := .later }
def UtfFreshCardSaid : Prop := Claim7.holds Tryd.pinned (.plain (OpenSpec.ofChange utfFreshSpec)) utfFreshCard

/-- THE TIED CARD OF 'vellumlaw02.UtfSeam'. -/
def utfSeamCard : Claim7 := { stood := { row := utfSeamRow, standIns := [], harness := (true, "1c66d7768c8401204fa3137fbc190091d06d77e63d57873eb7015eb56dd0fe58"), looks := false }, kinds := [], alts := [], laidByText := true, laidKinds := [.data, .pinned], laidTests := true, laidLooks := .later }
def UtfSeamCardSaid : Prop := Claim7.holds Tryd.pinned (.plain (OpenSpec.ofChange utfSeamSpec)) utfSeamCard

/-- THE TIED CARD OF 'vellumlaw02.UtfNames'. -/
def utfNamesCard : Claim7 := { stood := { row := utfNamesRow, standIns := [], harness := (true, "1c66d7768c8401204fa3137fbc190091d06d77e63d57873eb7015eb56dd0fe58"), looks := false }, kinds := [], alts := [], laidByText := true, laidKinds := [.data, .pinned], laidTests := true, laidLooks := .later }
def UtfNamesCardSaid : Prop := Claim7.holds Tryd.pinned (.plain (OpenSpec.ofChange utfNamesSpec)) utfNamesCard

/-- THE TIED CARD OF 'vellumlaw02.UtfCuts'. -/
def utfCutsCard : Claim7 := { stood := { row := utfCutsRow, standIns := [], harness := (true, "1c66d7768c8401204fa3137fbc190091d06d77e63d57873eb7015eb56dd0fe58"), looks := false }, kinds := [], alts := [], laidByText := true, laidKinds := [.data, .pinned], laidTests := true, laidLooks := .later }
def UtfCutsCardSaid : Prop := Claim7.holds Tryd.pinned (.plain (OpenSpec.ofChange utfCutsSpec)) utfCutsCard

/-- THE TIED CARD OF 'vellumlaw02.UtfBack'. -/
def utfBackCard : Claim7 := { stood := { row := utfBackRow, standIns := [], harness := (true, "1c66d7768c8401204fa3137fbc190091d06d77e63d57873eb7015eb56dd0fe58"), looks := false }, kinds := [], alts := [], laidByText := true, laidKinds := [.data, .pinned], laidTests := true, laidLooks := .later }
def UtfBackCardSaid : Prop := Claim7.holds Tryd.pinned (.plain (OpenSpec.ofChange utfBackSpec)) utfBackCard

/-- THE TIED CARD OF 'vellumlaw02.UtfTells'. -/
def utfTellsCard : Claim7 := { stood := { row := utfTellsRow, standIns := [], harness := (true, "1c66d7768c8401204fa3137fbc190091d06d77e63d57873eb7015eb56dd0fe58"), looks := false }, kinds := [], alts := [], laidByText := true, laidKinds := [.data, .pinned], laidTests := true, laidLooks := .later }
def UtfTellsCardSaid : Prop := Claim7.holds Tryd.pinned (.plain (OpenSpec.ofChange utfTellsSpec)) utfTellsCard

/-- THE TIED CARD OF 'vellumlaw02.UtfOrder'. -/
def utfOrderCard : Claim7 := { stood := { row := utfOrderRow, standIns := [], harness := (true, "1c66d7768c8401204fa3137fbc190091d06d77e63d57873eb7015eb56dd0fe58"), looks := false }, kinds := [], alts := [], laidByText := true, laidKinds := [.data, .pinned], laidTests := true, laidLooks := .later }
def UtfOrderCardSaid : Prop := Claim7.holds Tryd.pinned (.plain (OpenSpec.ofChange utfOrderSpec)) utfOrderCard

/-- THE TIED CARD OF 'vellumlaw02.UtfRange'. -/
def utfRangeCard : Claim7 := { stood := { row := utfRangeRow, standIns := [], harness := (true, "1c66d7768c8401204fa3137fbc190091d06d77e63d57873eb7015eb56dd0fe58"), looks := false }, kinds := [], alts := [], laidByText := true, laidKinds := [.data, .pinned], laidTests := true, laidLooks := .later }
def UtfRangeCardSaid : Prop := Claim7.holds Tryd.pinned (.plain (OpenSpec.ofChange utfRangeSpec)) utfRangeCard

/-- THE SECOND FORM's CARD OF 'vellumlaw02.UtfPlaces'. -/
def utfPlacesUptoCard : Claim7 := { stood := { row := utfPlacesUptoRow, standIns := [], harness := (true, "1c66d7768c8401204fa3137fbc190091d06d77e63d57873eb7015eb56dd0fe58"), looks := false }, kinds := [], alts := [], laidByText := true, laidKinds := [.data, .pinned], laidTests := true, laidLooks := .later }
def UtfPlacesUptoCardSaid : Prop := Claim7.holds Tryd.pinned (.plain (OpenSpec.upto utfPlacesSpec)) utfPlacesUptoCard

/-- THE SECOND FORM's CARD OF 'vellumlaw02.UtfReads'. -/
def utfReadsUptoCard : Claim7 := { stood := { row := utfReadsUptoRow, standIns := [], harness := (true, "1c66d7768c8401204fa3137fbc190091d06d77e63d57873eb7015eb56dd0fe58"), looks := false }, kinds := [], alts := [], laidByText := true, laidKinds := [.data, .pinned], laidTests := true, laidLooks := .later }
def UtfReadsUptoCardSaid : Prop := Claim7.holds Tryd.pinned (.plain (OpenSpec.upto utfReadsSpec)) utfReadsUptoCard

/-- THE SECOND FORM's CARD OF 'vellumlaw02.UtfCloses'. -/
def utfClosesUptoCard : Claim7 := { stood := { row := utfClosesUptoRow, standIns := [], harness := (true, "1c66d7768c8401204fa3137fbc190091d06d77e63d57873eb7015eb56dd0fe58"), looks := false }, kinds := [], alts := [], laidByText := true, laidKinds := [.data, .pinned], laidTests := true, laidLooks := .later }
def UtfClosesUptoCardSaid : Prop := Claim7.holds Tryd.pinned (.plain (OpenSpec.upto utfClosesSpec)) utfClosesUptoCard

/-- THE SECOND FORM's CARD OF 'vellumlaw02.UtfFresh'. -/
def utfFreshUptoCard : Claim7 := { stood := { row := utfFreshUptoRow, standIns := [], harness := (true, "1c66d7768c8401204fa3137fbc190091d06d77e63d57873eb7015eb56dd0fe58"), looks := false }, kinds := [], alts := [], laidByText := true, laidKinds := [.data, .pinned], laidTests := true, laidLooks := .later }
def UtfFreshUptoCardSaid : Prop := Claim7.holds Tryd.pinned (.plain (OpenSpec.upto utfFreshSpec)) utfFreshUptoCard

/-- THE SECOND FORM's CARD OF 'vellumlaw02.UtfSeam'. -/
def utfSeamUptoCard : Claim7 := { stood := { row := utfSeamUptoRow, standIns := [], harness := (true, "1c66d7768c8401204fa3137fbc190091d06d77e63d57873eb7015eb56dd0fe58"), looks := false }, kinds := [], alts := [], laidByText := true, laidKinds := [.data, .pinned], laidTests := true, laidLooks := .later }
def UtfSeamUptoCardSaid : Prop := Claim7.holds Tryd.pinned (.plain (OpenSpec.upto utfSeamSpec)) utfSeamUptoCard

/-- THE SECOND FORM's CARD OF 'vellumlaw02.UtfNames'. -/
def utfNamesUptoCard : Claim7 := { stood := { row := utfNamesUptoRow, standIns := [], harness := (true, "1c66d7768c8401204fa3137fbc190091d06d77e63d57873eb7015eb56dd0fe58"), looks := false }, kinds := [], alts := [], laidByText := true, laidKinds := [.data, .pinned], laidTests := true, laidLooks := .later }
def UtfNamesUptoCardSaid : Prop := Claim7.holds Tryd.pinned (.plain (OpenSpec.upto utfNamesSpec)) utfNamesUptoCard

/-- THE SECOND FORM's CARD OF 'vellumlaw02.UtfCuts'. -/
def utfCutsUptoCard : Claim7 := { stood := { row := utfCutsUptoRow, standIns := [], harness := (true, "1c66d7768c8401204fa3137fbc190091d06d77e63d57873eb7015eb56dd0fe58"), looks := false }, kinds := [], alts := [], laidByText := true, laidKinds := [.data, .pinned], laidTests := true, laidLooks := .later }
def UtfCutsUptoCardSaid : Prop := Claim7.holds Tryd.pinned (.plain (OpenSpec.upto utfCutsSpec)) utfCutsUptoCard

/-- THE SECOND FORM's CARD OF 'vellumlaw02.UtfBack'. -/
def utfBackUptoCard : Claim7 := { stood := { row := utfBackUptoRow, standIns := [], harness := (true, "1c66d7768c8401204fa3137fbc190091d06d77e63d57873eb7015eb56dd0fe58"), looks := false }, kinds := [], alts := [], laidByText := true, laidKinds := [.data, .pinned], laidTests := true, laidLooks := .later }
def UtfBackUptoCardSaid : Prop := Claim7.holds Tryd.pinned (.plain (OpenSpec.upto utfBackSpec)) utfBackUptoCard

/-- THE SECOND FORM's CARD OF 'vellumlaw02.UtfTells'. -/
def utfTellsUptoCard : Claim7 := { stood := { row := utfTellsUptoRow, standIns := [], harness := (true, "1c66d7768c8401204fa3137fbc190091d06d77e63d57873eb7015eb56dd0fe58"), looks := false }, kinds := [], alts := [], laidByText := true, laidKinds := [.data, .pinned], laidTests := true, laidLooks := .later }
def UtfTellsUptoCardSaid : Prop := Claim7.holds Tryd.pinned (.plain (OpenSpec.upto utfTellsSpec)) utfTellsUptoCard

/-- THE SECOND FORM's CARD OF 'vellumlaw02.UtfOrder'. -/
def utfOrderUptoCard : Claim7 := { stood := { row := utfOrderUptoRow, standIns := [], harness := (true, "1c66d7768c8401204fa3137fbc190091d06d77e63d57873eb7015eb56dd0fe58"), looks := false }, kinds := [], alts := [], laidByText := true, laidKinds := [.data, .pinned], laidTests := true, laidLooks := .later }
def UtfOrderUptoCardSaid : Prop := Claim7.holds Tryd.pinned (.plain (OpenSpec.upto utfOrderSpec)) utfOrderUptoCard

/-- THE SECOND FORM's CARD OF 'vellumlaw02.UtfRange'. -/
def utfRangeUptoCard : Claim7 := { stood := { row := utfRangeUptoRow, standIns := [], harness := (true, "1c66d7768c8401204fa3137fbc190091d06d77e63d57873eb7015eb56dd0fe58"), looks := false }, kinds := [], alts := [], laidByText := true, laidKinds := [.data, .pinned], laidTests := true, laidLooks := .later }
def UtfRangeUptoCardSaid : Prop := Claim7.holds Tryd.pinned (.plain (OpenSpec.upto utfRangeSpec)) utfRangeUptoCard
end Rows
end Go.Proofs.YtnfjohlbpbonhaaDoor
