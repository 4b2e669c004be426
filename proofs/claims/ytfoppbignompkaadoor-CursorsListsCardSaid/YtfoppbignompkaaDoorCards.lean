/-
  DERIVED. GIVEN WITH THE SEED: THE CARDS: each row of YtfoppbignompkaaDoorRows.lean that lists a variable, with what it lists TIED to the program's text (the seventh form; the later family's looks); each row that meets fmt, with fmt's text TOLD by the authors' own Lean function (tested against real Go, not proved from fmt's source: count such statements apart). THE CARD IS WHAT COUNTS. Prove the row's statement (the work); the ties are given (YtfoppbignompkaaDoorTie.lean); close each card by the builder's one call (the guide's Derived/Test/ToyasCard.lean, 'card_holds'). Laid BY PROGRAM, IN A SANDBOX (cutbox-door.mjs). By AI agents, Wed Nov 11 2026. No macro, syntax, notation, axiom, sorry.
-/
import Derived.Test.YtfoppbignompkaaDoorRows
import GoSem.ClaimSeven
namespace Go.Proofs.YtfoppbignompkaaDoor
namespace Rows

/-- THE TIED CARD OF 'vellumlaw20.CursorsShifts'. -/
def cursorsShiftsCard : Claim7 := { stood := { row := cursorsShiftsRow, standIns := [], harness := (true, "28d9c86f4f5a9b9ec6d65f3ac8d6d59564af55d136ed4d7a74efb59ba16fbe98"), looks := false }, kinds := [], alts := [], laidByText := true, laidKinds := [.data, .pinned], laidTests := true, laidLooks := .later }
def CursorsShiftsCardSaid : Prop := Claim7.holds Tryd.pinned (.plain (OpenSpec.ofChange cursorsShiftsSpec)) cursorsShiftsCard

/-- THE TIED CARD OF 'vellumlaw20.CursorsMoves'. -/
def cursorsMovesCard : Claim7 := { stood := { row := cursorsMovesRow, standIns := [], harness := (true, "28d9c86f4f5a9b9ec6d65f3ac8d6d59564af55d136ed4d7a74efb59ba16fbe98"), looks := false }, kinds := [], alts := [], laidByText := true, laidKinds := [.data, .pinned], laidTests := true, laidLooks := .later }
def CursorsMovesCardSaid : Prop := Claim7.holds Tryd.pinned (.plain (OpenSpec.ofChange cursorsMovesSpec)) cursorsMovesCard

/-- THE TIED CARD OF 'vellumlaw20.CursorsWords'. -/
def cursorsWordsCard : Claim7 := { stood := { row := cursorsWordsRow, standIns := [], harness := (true, "28d9c86f4f5a9b9ec6d65f3ac8d6d59564af55d136ed4d7a74efb59ba16fbe98"), looks := false }, kinds := [], alts := [], laidByText := true, laidKinds := [.data, .pinned], laidTests := true, laidLooks := .later }
def CursorsWordsCardSaid : Prop := Claim7.holds Tryd.pinned (.plain (OpenSpec.ofChange cursorsWordsSpec)) cursorsWordsCard

/-- THE TIED CARD OF 'vellumlaw20.CursorsNames'. -/
def cursorsNamesCard : Claim7 := { stood := { row := cursorsNamesRow, standIns := [], harness := (true, "28d9c86f4f5a9b9ec6d65f3ac8d6d59564af55d136ed4d7a74efb59ba16fbe98"), looks := false }, kinds := [], alts := [], laidByText := true, laidKinds := [.data, .pinned], laidTests := true, laidLooks := .later }
def CursorsNamesCardSaid : Prop := Claim7.holds Tryd.pinned (.plain (OpenSpec.ofChange cursorsNamesSpec)) cursorsNamesCard

/-- THE TIED CARD OF 'vellumlaw20.CursorsWalk'. -/
def cursorsWalkCard : Claim7 := { stood := { row := cursorsWalkRow, standIns := [], harness := (true, "28d9c86f4f5a9b9ec6d65f3ac8d6d59564af55d136ed4d7a74efb59ba16fbe98"), looks := false }, kinds := [], alts := [], laidByText := true, laidKinds := [.data, .pinned], laidTests := true, laidLooks := .later }
def CursorsWalkCardSaid : Prop := Claim7.holds Tryd.pinned (.plain (OpenSpec.ofChange cursorsWalkSpec)) cursorsWalkCard

/-- THE TIED CARD OF 'vellumlaw20.CursorsFollow'. -/
def cursorsFollowCard : Claim7 := { stood := { row := cursorsFollowRow, standIns := [], harness := (true, "28d9c86f4f5a9b9ec6d65f3ac8d6d59564af55d136ed4d7a74efb59ba16fbe98"), looks := false }, kinds := [], alts := [], laidByText := true, laidKinds := [.data, .pinned], laidTests := true, laidLooks := .later }
def CursorsFollowCardSaid : Prop := Claim7.holds Tryd.pinned (.plain (OpenSpec.ofChange cursorsFollowSpec)) cursorsFollowCard

/-- THE TIED CARD OF 'vellumlaw20.CursorsLines'. -/
def cursorsLinesCard : Claim7 := { stood := { row := cursorsLinesRow, standIns := [], harness := (true, "28d9c86f4f5a9b9ec6d65f3ac8d6d59564af55d136ed4d7a74efb59ba16fbe98"), looks := false }, kinds := [], alts := [], laidByText := true, laidKinds := [.data, .pinned], laidTests := true, laidLooks := .later }
def CursorsLinesCardSaid : Prop := Claim7.holds Tryd.pinned (.plain (OpenSpec.ofChange cursorsLinesSpec)) cursorsLinesCard

/-- THE TIED CARD OF 'vellumlaw20.CursorsPacks'. -/
def cursorsPacksCard : Claim7 := { stood := { row := cursorsPacksRow, standIns := [], harness := (true, "28d9c86f4f5a9b9ec6d65f3ac8d6d59564af55d136ed4d7a74efb59ba16fbe98"), looks := false }, kinds := [], alts := [], laidByText := true, laidKinds := [.data, .pinned], laidTests := true, laidLooks := .later }
def CursorsPacksCardSaid : Prop := Claim7.holds Tryd.pinned (.plain (OpenSpec.ofChange cursorsPacksSpec)) cursorsPacksCard

/-- THE TIED CARD OF 'vellumlaw20.CursorsBack'. -/
def cursorsBackCard : Claim7 := { stood := { row := cursorsBackRow, standIns := [], harness := (true, "28d9c86f4f5a9b9ec6d65f3ac8d6d59564af55d136ed4d7a74efb59ba16fbe98"), looks := false }, kinds := [], alts := [], laidByText := true, laidKinds := [.data, .pinned], laidTests := true, laidLooks := .later }
def CursorsBackCardSaid : Prop := Claim7.holds Tryd.pinned (.plain (OpenSpec.ofChange cursorsBackSpec)) cursorsBackCard

/-- THE TIED CARD OF 'vellumlaw20.CursorsLists'. -/
def cursorsListsCard : Claim7 := { stood := { row := cursorsListsRow, standIns := [], harness := (true, "28d9c86f4f5a9b9ec6d65f3ac8d6d59564af55d136ed4d7a74efb59ba16fbe98"), looks := false }, kinds := [], alts := [], laidByText := true, laidKinds := [.data, .pinned], laidTests := true, laidLooks := .later }
def CursorsListsCardSaid : Prop := Claim7.holds Tryd.pinned (.plain (OpenSpec.ofChange cursorsListsSpec)) cursorsListsCard

/-- THE SECOND FORM's CARD OF 'vellumlaw20.CursorsShifts'. -/
def cursorsShiftsUptoCard : Claim7 := { stood := { row := cursorsShiftsUptoRow, standIns := [], harness := (true, "28d9c86f4f5a9b9ec6d65f3ac8d6d59564af55d136ed4d7a74efb59ba16fbe98"), looks := false }, kinds := [], alts := [], laidByText := true, laidKinds := [.data, .pinned], laidTests := true, laidLooks := .later }
def CursorsShiftsUptoCardSaid : Prop := Claim7.holds Tryd.pinned (.plain (OpenSpec.upto cursorsShiftsSpec)) cursorsShiftsUptoCard

/-- THE SECOND FORM's CARD OF 'vellumlaw20.CursorsMoves'. -/
def cursorsMovesUptoCard : Claim7 := { stood := { row := cursorsMovesUptoRow, standIns := [], harness := (true, "28d9c86f4f5a9b9ec6d65f3ac8d6d59564af55d136ed4d7a74efb59ba16fbe98"), looks := false }, kinds := [], alts := [], laidByText := true, laidKinds := [.data, .pinned], laidTests := true, laidLooks := .later }
def CursorsMovesUptoCardSaid : Prop := Claim7.holds Tryd.pinned (.plain (OpenSpec.upto cursorsMovesSpec)) cursorsMovesUptoCard

/-- THE SECOND FORM's CARD OF 'vellumlaw20.CursorsWords'. -/
def cursorsWordsUptoCard : Claim7 := { stood := { row := cursorsWordsUptoRow, standIns := [], harness := (true, "28d9c86f4f5a9b9ec6d65f3ac8d6d59564af55d136ed4d7a74efb59ba16fbe98"), looks := false }, kinds := [], alts := [], laidByText := true, laidKinds := [.data, .pinned], laidTests := true, laidLooks := .later }
def CursorsWordsUptoCardSaid : Prop := Claim7.holds Tryd.pinned (.plain (OpenSpec.upto cursorsWordsSpec)) cursorsWordsUptoCard

/-- THE SECOND FORM's CARD OF 'vellumlaw20.CursorsNames'. -/
def cursorsNamesUptoCard : Claim7 := { stood := { row := cursorsNamesUptoRow, standIns := [], harness := (true, "28d9c86f4f5a9b9ec6d65f3ac8d6d59564af55d136ed4d7a74efb59ba16fbe98"), looks := false }, kinds := [], alts := [], laidByText := true, laidKinds := [.data, .pinned], laidTests := true, laidLooks := .later }
def CursorsNamesUptoCardSaid : Prop := Claim7.holds Tryd.pinned (.plain (OpenSpec.upto cursorsNamesSpec)) cursorsNamesUptoCard

/-- THE SECOND FORM's CARD OF 'vellumlaw20.CursorsWalk'. -/
def cursorsWalkUptoCard : Claim7 := { stood := { row := cursorsWalkUptoRow, standIns := [], harness := (true, "28d9c86f4f5a9b9ec6d65f3ac8d6d59564af55d136ed4d7a74efb59ba16fbe98"), looks := false }, kinds := [], alts := [], laidByText := true, laidKinds := [.data, .pinned], laidTests := true, laidLooks := .later }
def CursorsWalkUptoCardSaid : Prop := Claim7.holds Tryd.pinned (.plain (OpenSpec.upto cursorsWalkSpec)) cursorsWalkUptoCard

/-- THE SECOND FORM's CARD OF 'vellumlaw20.CursorsFollow'. -/
def cursorsFollowUptoCard : Claim7 := { stood := { row := cursorsFollowUptoRow, standIns := [], harness := (true, "28d9c86f4f5a9b9ec6d65f3ac8d6d59564af55d136ed4d7a74efb59ba16fbe98"), looks := false }, kinds := [], alts := [], laidByText := true, laidKinds := [.data, .pinned], laidTests := true, laidLooks := .later }
def CursorsFollowUptoCardSaid : Prop := Claim7.holds Tryd.pinned (.plain (OpenSpec.upto cursorsFollowSpec)) cursorsFollowUptoCard

/-- THE SECOND FORM's CARD OF 'vellumlaw20.CursorsLines'. -/
def cursorsLinesUptoCard : Claim7 := { stood := { row := cursorsLinesUptoRow, standIns := [], harness := (true, "28d9c86f4f5a9b9ec6d65f3ac8d6d59564af55d136ed4d7a74efb59ba16fbe98"), looks := false }, kinds := [], alts := [], laidByText := true, laidKinds := [.data, .pinned], laidTests := true, laidLooks := .later }
def CursorsLinesUptoCardSaid : Prop := Claim7.holds Tryd.pinned (.plain (OpenSpec.upto cursorsLinesSpec)) cursorsLinesUptoCard

/-- THE SECOND FORM's CARD OF 'vellumlaw20.CursorsPacks'. -/
def cursorsPacksUptoCard : Claim7 := { stood := { row := cursorsPacksUptoRow, standIns := [], harness := (true, "28d9c86f4f5a9b9ec6d65f3ac8d6d59564af55d136ed4d7a74efb59ba16fbe98"), looks := false }, kinds := [], alts := [], laidByText := true, laidKinds := [.data, .pinned], laidTests := true, laidLooks := .later }
def CursorsPacksUptoCardSaid : Prop := Claim7.holds Tryd.pinned (.plain (OpenSpec.upto cursorsPacksSpec)) cursorsPacksUptoCard

/-- THE SECOND FORM's CARD OF 'vellumlaw20.CursorsBack'. -/
def cursorsBackUptoCard : Claim7 := { stood := { row := cursorsBackUptoRow, standIns := [], harness := (true, "28d9c86f4f5a9b9ec6d65f3ac8d6d59564af55d136ed4d7a74efb59ba16fbe98"), looks := false }, kinds := [], alts := [], laidByText := true, laidKinds := [.data, .pinned], laidTests := true, laidLooks := .later }
def CursorsBackUptoCardSaid : Prop := Claim7.holds Tryd.pinned (.plain (OpenSpec.upto cursorsBackSpec)) cursorsBackUptoCard

/-- THE SECOND FORM's CARD OF 'vellumlaw20.CursorsLists'. -/
def cursorsListsUptoCard : Claim7 := { stood := { row := cursorsListsUptoRow, standIns := [], harness := (true, "28d9c86f4f5a9b9ec6d65f3ac8d6d59564af55d136ed4d7a74efb59ba16fbe98"), looks := false }, kinds := [], alts := [], laidByText := true, laidKinds := [.data, .pinned], laidTests := true, laidLooks := .later }
def CursorsListsUptoCardSaid : Prop := Claim7.holds Tryd.pinned (.plain (OpenSpec.upto cursorsListsSpec)) cursorsListsUptoCard
end Rows
end Go.Proofs.YtfoppbignompkaaDoor
