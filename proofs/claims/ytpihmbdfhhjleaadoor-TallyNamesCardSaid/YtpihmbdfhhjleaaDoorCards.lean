/-
  DERIVED. GIVEN WITH THE SEED: THE CARDS: each row of YtpihmbdfhhjleaaDoorRows.lean that lists a variable, with what it lists TIED to the program's text (the seventh form; the later family's looks); each row that meets fmt, with fmt's text TOLD by the authors' own Lean function (tested against real Go, not proved from fmt's source: count such statements apart). THE CARD IS WHAT COUNTS. Prove the row's statement (the work); the ties are given (YtpihmbdfhhjleaaDoorTie.lean); close each card by the builder's one call (the guide's Derived/Test/ToyasCard.lean, 'card_holds'). Laid BY PROGRAM, IN A SANDBOX (cutbox-door.mjs). By AI agents, Wed Nov 11 2026. No macro, syntax, notation, axiom, sorry.
-/
import Derived.Test.YtpihmbdfhhjleaaDoorRows
import GoSem.ClaimSeven
namespace Go.Proofs.YtpihmbdfhhjleaaDoor
namespace Rows

/-- THE TIED CARD OF 'vellumlaw03.TallyTells'. -/
def tallyTellsCard : Claim7 := { stood := { row := tallyTellsRow, standIns := [], harness := (true, "ae2b2e868e91f9f8eb7511f65f7814af6c47b5a3d369299790ebcc3aad8c1156"), looks := false }, kinds := [], alts := [], laidByText := true, laidKinds := [.data, .pinned], laidTests := true, laidLooks := .later }
def TallyTellsCardSaid : Prop := Claim7.holds Tryd.pinned (.plain (OpenSpec.ofChange tallyTellsSpec)) tallyTellsCard

/-- THE TIED CARD OF 'vellumlaw03.TallyChecks'. -/
def tallyChecksCard : Claim7 := { stood := { row := tallyChecksRow, standIns := [], harness := (true, "ae2b2e868e91f9f8eb7511f65f7814af6c47b5a3d369299790ebcc3aad8c1156"), looks := false }, kinds := [], alts := [], laidByText := true, laidKinds := [.data, .pinned], laidTests := true, laidLooks := .later }
def TallyChecksCardSaid : Prop := Claim7.holds Tryd.pinned (.plain (OpenSpec.ofChange tallyChecksSpec)) tallyChecksCard

/-- THE TIED CARD OF 'vellumlaw03.TallyJoins'. -/
def tallyJoinsCard : Claim7 := { stood := { row := tallyJoinsRow, standIns := [], harness := (true, "ae2b2e868e91f9f8eb7511f65f7814af6c47b5a3d369299790ebcc3aad8c1156"), looks := false }, kinds := [], alts := [], laidByText := true, laidKinds := [.data, .pinned], laidTests := true, laidLooks := .later }
def TallyJoinsCardSaid : Prop := Claim7.holds Tryd.pinned (.plain (OpenSpec.ofChange tallyJoinsSpec)) tallyJoinsCard

/-- THE TIED CARD OF 'vellumlaw03.TallyThree'. -/
def tallyThreeCard : Claim7 := { stood := { row := tallyThreeRow, standIns := [], harness := (true, "ae2b2e868e91f9f8eb7511f65f7814af6c47b5a3d369299790ebcc3aad8c1156"), looks := false }, kinds := [], alts := [], laidByText := true, laidKinds := [.data, .pinned], laidTests := true, laidLooks := .later }
def TallyThreeCardSaid : Prop := Claim7.holds Tryd.pinned (.plain (OpenSpec.ofChange tallyThreeSpec)) tallyThreeCard

/-- THE TIED CARD OF 'vellumlaw03.TallyNames'. -/
def tallyNamesCard : Claim7 := { stood := { row := tallyNamesRow, standIns := [], harness := (true, "ae2b2e868e91f9f8eb7511f65f7814af6c47b5a3d369299790ebcc3aad8c1156"), looks := false }, kinds := [], alts := [], laidByText := true, laidKinds := [.data, .pinned], laidTests := true, laidLooks := .later }
def TallyNamesCardSaid : Prop := Claim7.holds Tryd.pinned (.plain (OpenSpec.ofChange tallyNamesSpec)) tallyNamesCard

/-- THE TIED CARD OF 'vellumlaw03.TallySums'. -/
def tallySumsCard : Claim7 := { stood := { row := tallySumsRow, standIns := [], harness := (true, "ae2b2e868e91f9f8eb7511f65f7814af6c47b5a3d369299790ebcc3aad8c1156"), looks := false }, kinds := [], alts := [], laidByText := true, laidKinds := [.data, .pinned], laidTests := true, laidLooks := .later }
def TallySumsCardSaid : Prop := Claim7.holds Tryd.pinned (.plain (OpenSpec.ofChange tallySumsSpec)) tallySumsCard

/-- THE TIED CARD OF 'vellumlaw03.TallyParts'. -/
def tallyPartsCard : Claim7 := { stood := { row := tallyPartsRow, standIns := [], harness := (true, "ae2b2e868e91f9f8eb7511f65f7814af6c47b5a3d369299790ebcc3aad8c1156"), looks := false }, kinds := [], alts := [], laidByText := true, laidKinds := [.data, .pinned], laidTests := true, laidLooks := .later }
def TallyPartsCardSaid : Prop := Claim7.holds Tryd.pinned (.plain (OpenSpec.ofChange tallyPartsSpec)) tallyPartsCard

/-- THE TIED CARD OF 'vellumlaw03.TallyWhole'. -/
def tallyWholeCard : Claim7 := { stood := { row := tallyWholeRow, standIns := [], harness := (true, "ae2b2e868e91f9f8eb7511f65f7814af6c47b5a3d369299790ebcc3aad8c1156"), looks := false }, kinds := [], alts := [], laidByText := true, laidKinds := [.data, .pinned], laidTests := true, laidLooks := .later }
def TallyWholeCardSaid : Prop := Claim7.holds Tryd.pinned (.plain (OpenSpec.ofChange tallyWholeSpec)) tallyWholeCard

/-- THE SECOND FORM's CARD OF 'vellumlaw03.TallyTells'. -/
def tallyTellsUptoCard : Claim7 := { stood := { row := tallyTellsUptoRow, standIns := [], harness := (true, "ae2b2e868e91f9f8eb7511f65f7814af6c47b5a3d369299790ebcc3aad8c1156"), looks := false }, kinds := [], alts := [], laidByText := true, laidKinds := [.data, .pinned], laidTests := true, laidLooks := .later }
def TallyTellsUptoCardSaid : Prop := Claim7.holds Tryd.pinned (.plain (OpenSpec.upto tallyTellsSpec)) tallyTellsUptoCard

/-- THE SECOND FORM's CARD OF 'vellumlaw03.TallyChecks'. -/
def tallyChecksUptoCard : Claim7 := { stood := { row := tallyChecksUptoRow, standIns := [], harness := (true, "ae2b2e868e91f9f8eb7511f65f7814af6c47b5a3d369299790ebcc3aad8c1156"), looks := false }, kinds := [], alts := [], laidByText := true, laidKinds := [.data, .pinned], laidTests := true, laidLooks := .later }
def TallyChecksUptoCardSaid : Prop := Claim7.holds Tryd.pinned (.plain (OpenSpec.upto tallyChecksSpec)) tallyChecksUptoCard

/-- THE SECOND FORM's CARD OF 'vellumlaw03.TallyJoins'. -/
def tallyJoinsUptoCard : Claim7 := { stood := { row := tallyJoinsUptoRow, standIns := [], harness := (true, "ae2b2e868e91f9f8eb7511f65f7814af6c47b5a3d369299790ebcc3aad8c1156"), looks := false }, kinds := [], alts := [], laidByText := true, laidKinds := [.data, .pinned], laidTests := true, laidLooks := .later }
def TallyJoinsUptoCardSaid : Prop := Claim7.holds Tryd.pinned (.plain (OpenSpec.upto tallyJoinsSpec)) tallyJoinsUptoCard

/-- THE SECOND FORM's CARD OF 'vellumlaw03.TallyThree'. -/
def tallyThreeUptoCard : Claim7 := { stood := { row := tallyThreeUptoRow, standIns := [], harness := (true, "ae2b2e868e91f9f8eb7511f65f7814af6c47b5a3d369299790ebcc3aad8c1156"), looks := false }, kinds := [], alts := [], laidByText := true, laidKinds := [.data, .pinned], laidTests := true, laidLooks := .later }
def TallyThreeUptoCardSaid : Prop := Claim7.holds Tryd.pinned (.plain (OpenSpec.upto tallyThreeSpec)) tallyThreeUptoCard

/-- THE SECOND FORM's CARD OF 'vellumlaw03.TallyNames'. -/
def tallyNamesUptoCard : Claim7 := { stood := { row := tallyNamesUptoRow, standIns := [], harness := (true, "ae2b2e868e91f9f8eb7511f65f7814af6c47b5a3d369299790ebcc3aad8c1156"), looks := false }, kinds := [], alts := [], laidByText := true, laidKinds := [.data, .pinned], laidTests := true, laidLooks := .later }
def TallyNamesUptoCardSaid : Prop := Claim7.holds Tryd.pinned (.plain (OpenSpec.upto tallyNamesSpec)) tallyNamesUptoCard

/-- THE SECOND FORM's CARD OF 'vellumlaw03.TallySums'. -/
def tallySumsUptoCard : Claim7 := { stood := { row := tallySumsUptoRow, standIns := [], harness := (true, "ae2b2e868e91f9f8eb7511f65f7814af6c47b5a3d369299790ebcc3aad8c1156"), looks := false }, kinds := [], alts := [], laidByText := true, laidKinds := [.data, .pinned], laidTests := true, laidLooks := .later }
def TallySumsUptoCardSaid : Prop := Claim7.holds Tryd.pinned (.plain (OpenSpec.upto tallySumsSpec)) tallySumsUptoCard

/-- THE SECOND FORM's CARD OF 'vellumlaw03.TallyParts'. -/
def tallyPartsUptoCard : Claim7 := { stood := { row := tallyPartsUptoRow, standIns := [], harness := (true, "ae2b2e868e91f9f8eb7511f65f7814af6c47b5a3d369299790ebcc3aad8c1156"), looks := false }, kinds := [], alts := [], laidByText := true, laidKinds := [.data, .pinned], laidTests := true, laidLooks := .later }
def TallyPartsUptoCardSaid : Prop := Claim7.holds Tryd.pinned (.plain (OpenSpec.upto tallyPartsSpec)) tallyPartsUptoCard

/-- THE SECOND FORM's CARD OF 'vellumlaw03.TallyWhole'. -/
def tallyWholeUptoCard : Claim7 := { stood := { row := tallyWholeUptoRow, standIns := [], harness := (true, "ae2b2e868e91f9f8eb7511f65f7814af6c47b5a3d369299790ebcc3aad8c1156"), looks := false }, kinds := [], alts := [], laidByText := true, laidKinds := [.data, .pinned], laidTests := true, laidLooks := .later }
def TallyWholeUptoCardSaid : Prop := Claim7.holds Tryd.pinned (.plain (OpenSpec.upto tallyWholeSpec)) tallyWholeUptoCard
end Rows
end Go.Proofs.YtpihmbdfhhjleaaDoor
