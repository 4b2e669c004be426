/-
  DERIVED. GIVEN WITH THE SEED: THE CARDS: each row of YticonolnagcakaaDoorRows.lean that lists a variable, with what it lists TIED to the program's text (the seventh form; the later family's looks); each row that meets fmt, with fmt's text TOLD by the authors' own Lean function (tested against real Go, not proved from fmt's source: count such statements apart). THE CARD IS WHAT COUNTS. Prove the row's statement (the work); the ties are given (YticonolnagcakaaDoorTie.lean); close each card by the builder's one call (the guide's Derived/Test/ToyasCard.lean, 'card_holds'). Laid BY PROGRAM, IN A SANDBOX (cutbox-door.mjs). By AI agents, Wed Nov 11 2026. No macro, syntax, notation, axiom, sorry.
-/
import Derived.Test.YticonolnagcakaaDoorRows
import GoSem.ClaimSeven
namespace Go.Proofs.YticonolnagcakaaDoor
namespace Rows

/-- THE TIED CARD OF 'vellumlaw28.ViewRows'. -/
def viewRowsCard : Claim7 := { stood := { row := viewRowsRow, standIns := [], harness := (true, "ca98f67cfc2c91058c3f68dfc79077c5dfd54f235cc64666786f51e92f27eb62"), looks := false }, kinds := [], alts := [], laidByText := true, laidKinds := [.data, .pinned], laidTests := true, laidLooks := .later }
def ViewRowsCardSaid : Prop := Claim7.holds Tryd.pinned (.plain (OpenSpec.ofChange viewRowsSpec)) viewRowsCard

/-- THE TIED CARD OF 'vellumlaw28.ViewPlaces'. -/
def viewPlacesCard : Claim7 := { stood := { row := viewPlacesRow, standIns := [], harness := (true, "ca98f67cfc2c91058c3f68dfc79077c5dfd54f235cc64666786f51e92f27eb62"), looks := false }, kinds := [], alts := [], laidByText := true, laidKinds := [.data, .pinned], laidTests := true, laidLooks := .later }
def ViewPlacesCardSaid : Prop := Claim7.holds Tryd.pinned (.plain (OpenSpec.ofChange viewPlacesSpec)) viewPlacesCard

/-- THE TIED CARD OF 'vellumlaw28.ViewBack'. -/
def viewBackCard : Claim7 := { stood := { row := viewBackRow, standIns := [], harness := (true, "ca98f67cfc2c91058c3f68dfc79077c5dfd54f235cc64666786f51e92f27eb62"), looks := false }, kinds := [], alts := [], laidByText := true, laidKinds := [.data, .pinned], laidTests := true, laidLooks := .later }
def ViewBackCardSaid : Prop := Claim7.holds Tryd.pinned (.plain (OpenSpec.ofChange viewBackSpec)) viewBackCard

/-- THE TIED CARD OF 'vellumlaw28.ViewWhole'. -/
def viewWholeCard : Claim7 := { stood := { row := viewWholeRow, standIns := [], harness := (true, "ca98f67cfc2c91058c3f68dfc79077c5dfd54f235cc64666786f51e92f27eb62"), looks := false }, kinds := [], alts := [], laidByText := true, laidKinds := [.data, .pinned], laidTests := true, laidLooks := .later }
def ViewWholeCardSaid : Prop := Claim7.holds Tryd.pinned (.plain (OpenSpec.ofChange viewWholeSpec)) viewWholeCard

/-- THE TIED CARD OF 'vellumlaw28.ViewTexts'. -/
def viewTextsCard : Claim7 := { stood := { row := viewTextsRow, standIns := [], harness := (true, "ca98f67cfc2c91058c3f68dfc79077c5dfd54f235cc64666786f51e92f27eb62"), looks := false }, kinds := [], alts := [], laidByText := true, laidKinds := [.data, .pinned], laidTests := true, laidLooks := .later }
def ViewTextsCardSaid : Prop := Claim7.holds Tryd.pinned (.plain (OpenSpec.ofChange viewTextsSpec)) viewTextsCard

/-- THE TIED CARD OF 'vellumlaw28.ViewKnown'. -/
def viewKnownCard : Claim7 := { stood := { row := viewKnownRow, standIns := [], harness := (true, "ca98f67cfc2c91058c3f68dfc79077c5dfd54f235cc64666786f51e92f27eb62"), looks := false }, kinds := [], alts := [], laidByText := true, laidKinds := [.data, .pinned], laidTests := true, laidLooks := .later }
def ViewKnownCardSaid : Prop := Claim7.holds Tryd.pinned (.plain (OpenSpec.ofChange viewKnownSpec)) viewKnownCard

/-- THE SECOND FORM's CARD OF 'vellumlaw28.ViewRows'. -/
def viewRowsUptoCard : Claim7 := { stood := { row := viewRowsUptoRow, standIns := [], harness := (true, "ca98f67cfc2c91058c3f68dfc79077c5dfd54f235cc64666786f51e92f27eb62"), looks := false }, kinds := [], alts := [], laidByText := true, laidKinds := [.data, .pinned], laidTests := true, laidLooks := .later }
def ViewRowsUptoCardSaid : Prop := Claim7.holds Tryd.pinned (.plain (OpenSpec.upto viewRowsSpec)) viewRowsUptoCard

/-- THE SECOND FORM's CARD OF 'vellumlaw28.ViewPlaces'. -/
def viewPlacesUptoCard : Claim7 := { stood := { row := viewPlacesUptoRow, standIns := [], harness := (true, "ca98f67cfc2c91058c3f68dfc79077c5dfd54f235cc64666786f51e92f27eb62"), looks := false }, kinds := [], alts := [], laidByText := true, laidKinds := [.data, .pinned], laidTests := true, laidLooks := .later }
def ViewPlacesUptoCardSaid : Prop := Claim7.holds Tryd.pinned (.plain (OpenSpec.upto viewPlacesSpec)) viewPlacesUptoCard

/-- THE SECOND FORM's CARD OF 'vellumlaw28.ViewBack'. -/
def viewBackUptoCard : Claim7 := { stood := { row := viewBackUptoRow, standIns := [], harness := (true, "ca98f67cfc2c91058c3f68dfc79077c5dfd54f235cc64666786f51e92f27eb62"), looks := false }, kinds := [], alts := [], laidByText := true, laidKinds := [.data, .pinned], laidTests := true, laidLooks := .later }
def ViewBackUptoCardSaid : Prop := Claim7.holds Tryd.pinned (.plain (OpenSpec.upto viewBackSpec)) viewBackUptoCard

/-- THE SECOND FORM's CARD OF 'vellumlaw28.ViewWhole'. -/
def viewWholeUptoCard : Claim7 := { stood := { row := viewWholeUptoRow, standIns := [], harness := (true, "ca98f67cfc2c91058c3f68dfc79077c5dfd54f235cc64666786f51e92f27eb62"), looks := false }, kinds := [], alts := [], laidByText := true, laidKinds := [.data, .pinned], laidTests := true, laidLooks := .later }
def ViewWholeUptoCardSaid : Prop := Claim7.holds Tryd.pinned (.plain (OpenSpec.upto viewWholeSpec)) viewWholeUptoCard

/-- THE SECOND FORM's CARD OF 'vellumlaw28.ViewTexts'. -/
def viewTextsUptoCard : Claim7 := { stood := { row := viewTextsUptoRow, standIns := [], harness := (true, "ca98f67cfc2c91058c3f68dfc79077c5dfd54f235cc64666786f51e92f27eb62"), looks := false }, kinds := [], alts := [], laidByText := true, laidKinds := [.data, .pinned], laidTests := true, laidLooks := .later }
def ViewTextsUptoCardSaid : Prop := Claim7.holds Tryd.pinned (.plain (OpenSpec.upto viewTextsSpec)) viewTextsUptoCard

/-- THE SECOND FORM's CARD OF 'vellumlaw28.ViewKnown'. -/
def viewKnownUptoCard : Claim7 := { stood := { row := viewKnownUptoRow, standIns := [], harness := (true, "ca98f67cfc2c91058c3f68dfc79077c5dfd54f235cc64666786f51e92f27eb62"), looks := false }, kinds := [], alts := [], laidByText := true, laidKinds := [.data, .pinned], laidTests := true, laidLooks := .later }
def ViewKnownUptoCardSaid : Prop := Claim7.holds Tryd.pinned (.plain (OpenSpec.upto viewKnownSpec)) viewKnownUptoCard
end Rows
end Go.Proofs.YticonolnagcakaaDoor
