/-
  DERIVED. GIVEN WITH THE SEED: THE CARDS: each row of YtkknmbkfiiidmaaDoorRows.lean that lists a variable, with what it lists TIED to the program's text (the seventh form; the later family's looks); each row that meets fmt, with fmt's text TOLD by the authors' own Lean function (tested against real Go, not proved from fmt's source: count such statements apart). THE CARD IS WHAT COUNTS. Prove the row's statement (the work); the ties are given (YtkknmbkfiiidmaaDoorTie.lean); close each card by the builder's one call (the guide's Derived/Test/ToyasCard.lean, 'card_holds'). Laid BY PROGRAM, IN A SANDBOX (cutbox-door.mjs). By AI agents, Wed Nov 11 2026. No macro, syntax, notation, axiom, sorry.
-/
import Derived.Test.YtkknmbkfiiidmaaDoorRows
import GoSem.ClaimSeven
namespace Go.Proofs.YtkknmbkfiiidmaaDoor
namespace Rows

/-- THE TIED CARD OF 'vellumlaw05.KindsRunes'. -/
def kindsRunesCard : Claim7 := { stood := { row := kindsRunesRow, standIns := [], harness := (true, "4598e7837cc00f1d6cd5fae42e66b8fff44247b11ebc17c042a5d4e67499c887"), looks := false }, kinds := [], alts := [], laidByText := true, laidKinds := [.data, .pinned], laidTests := true, laidLooks := .later }
def KindsRunesCardSaid : Prop := Claim7.holds Tryd.pinned (.plain (OpenSpec.ofChange kindsRunesSpec)) kindsRunesCard

/-- THE TIED CARD OF 'vellumlaw05.KindsStops'. -/
def kindsStopsCard : Claim7 := { stood := { row := kindsStopsRow, standIns := [], harness := (true, "4598e7837cc00f1d6cd5fae42e66b8fff44247b11ebc17c042a5d4e67499c887"), looks := false }, kinds := [], alts := [], laidByText := true, laidKinds := [.data, .pinned], laidTests := true, laidLooks := .later }
def KindsStopsCardSaid : Prop := Claim7.holds Tryd.pinned (.plain (OpenSpec.ofChange kindsStopsSpec)) kindsStopsCard

/-- THE TIED CARD OF 'vellumlaw05.KindsColumns'. -/
def kindsColumnsCard : Claim7 := { stood := { row := kindsColumnsRow, standIns := [], harness := (true, "4598e7837cc00f1d6cd5fae42e66b8fff44247b11ebc17c042a5d4e67499c887"), looks := false }, kinds := [], alts := [], laidByText := true, laidKinds := [.data, .pinned], laidTests := true, laidLooks := .later }
def KindsColumnsCardSaid : Prop := Claim7.holds Tryd.pinned (.plain (OpenSpec.ofChange kindsColumnsSpec)) kindsColumnsCard

/-- THE TIED CARD OF 'vellumlaw05.KindsParts'. -/
def kindsPartsCard : Claim7 := { stood := { row := kindsPartsRow, standIns := [], harness := (true, "4598e7837cc00f1d6cd5fae42e66b8fff44247b11ebc17c042a5d4e67499c887"), looks := false }, kinds := [], alts := [], laidByText := true, laidKinds := [.data, .pinned], laidTests := true, laidLooks := .later }
def KindsPartsCardSaid : Prop := Claim7.holds Tryd.pinned (.plain (OpenSpec.ofChange kindsPartsSpec)) kindsPartsCard

/-- THE TIED CARD OF 'vellumlaw05.KindsWalk'. -/
def kindsWalkCard : Claim7 := { stood := { row := kindsWalkRow, standIns := [], harness := (true, "4598e7837cc00f1d6cd5fae42e66b8fff44247b11ebc17c042a5d4e67499c887"), looks := false }, kinds := [], alts := [], laidByText := true, laidKinds := [.data, .pinned], laidTests := true, laidLooks := .later }
def KindsWalkCardSaid : Prop := Claim7.holds Tryd.pinned (.plain (OpenSpec.ofChange kindsWalkSpec)) kindsWalkCard

/-- THE TIED CARD OF 'vellumlaw05.KindsLikes'. -/
def kindsLikesCard : Claim7 := { stood := { row := kindsLikesRow, standIns := [], harness := (true, "4598e7837cc00f1d6cd5fae42e66b8fff44247b11ebc17c042a5d4e67499c887"), looks := false }, kinds := [], alts := [], laidByText := true, laidKinds := [.data, .pinned], laidTests := true, laidLooks := .later }
def KindsLikesCardSaid : Prop := Claim7.holds Tryd.pinned (.plain (OpenSpec.ofChange kindsLikesSpec)) kindsLikesCard

/-- THE TIED CARD OF 'vellumlaw05.KindsNames'. -/
def kindsNamesCard : Claim7 := { stood := { row := kindsNamesRow, standIns := [], harness := (true, "4598e7837cc00f1d6cd5fae42e66b8fff44247b11ebc17c042a5d4e67499c887"), looks := false }, kinds := [], alts := [], laidByText := true, laidKinds := [.data, .pinned], laidTests := true, laidLooks := .later }
def KindsNamesCardSaid : Prop := Claim7.holds Tryd.pinned (.plain (OpenSpec.ofChange kindsNamesSpec)) kindsNamesCard

/-- THE TIED CARD OF 'vellumlaw05.KindsAdd'. -/
def kindsAddCard : Claim7 := { stood := { row := kindsAddRow, standIns := [], harness := (true, "4598e7837cc00f1d6cd5fae42e66b8fff44247b11ebc17c042a5d4e67499c887"), looks := false }, kinds := [], alts := [], laidByText := true, laidKinds := [.data, .pinned], laidTests := true, laidLooks := .later }
def KindsAddCardSaid : Prop := Claim7.holds Tryd.pinned (.plain (OpenSpec.ofChange kindsAddSpec)) kindsAddCard

/-- THE TIED CARD OF 'vellumlaw05.KindsAlike'. -/
def kindsAlikeCard : Claim7 := { stood := { row := kindsAlikeRow, standIns := [], harness := (true, "4598e7837cc00f1d6cd5fae42e66b8fff44247b11ebc17c042a5d4e67499c887"), looks := false }, kinds := [], alts := [], laidByText := true, laidKinds := [.data, .pinned], laidTests := true, laidLooks := .later }
def KindsAlikeCardSaid : Prop := Claim7.holds Tryd.pinned (.plain (OpenSpec.ofChange kindsAlikeSpec)) kindsAlikeCard

/-- THE SECOND FORM's CARD OF 'vellumlaw05.KindsRunes'. -/
def kindsRunesUptoCard : Claim7 := { stood := { row := kindsRunesUptoRow, standIns := [], harness := (true, "4598e7837cc00f1d6cd5fae42e66b8fff44247b11ebc17c042a5d4e67499c887"), looks := false }, kinds := [], alts := [], laidByText := true, laidKinds := [.data, .pinned], laidTests := true, laidLooks := .later }
def KindsRunesUptoCardSaid : Prop := Claim7.holds Tryd.pinned (.plain (OpenSpec.upto kindsRunesSpec)) kindsRunesUptoCard

/-- THE SECOND FORM's CARD OF 'vellumlaw05.KindsStops'. -/
def kindsStopsUptoCard : Claim7 := { stood := { row := kindsStopsUptoRow, standIns := [], harness := (true, "4598e7837cc00f1d6cd5fae42e66b8fff44247b11ebc17c042a5d4e67499c887"), looks := false }, kinds := [], alts := [], laidByText := true, laidKinds := [.data, .pinned], laidTests := true, laidLooks := .later }
def KindsStopsUptoCardSaid : Prop := Claim7.holds Tryd.pinned (.plain (OpenSpec.upto kindsStopsSpec)) kindsStopsUptoCard

/-- THE SECOND FORM's CARD OF 'vellumlaw05.KindsColumns'. -/
def kindsColumnsUptoCard : Claim7 := { stood := { row := kindsColumnsUptoRow, standIns := [], harness := (true, "4598e7837cc00f1d6cd5fae42e66b8fff44247b11ebc17c042a5d4e67499c887"), looks := false }, kinds := [], alts := [], laidByText := true, laidKinds := [.data, .pinned], laidTests := true, laidLooks := .later }
def KindsColumnsUptoCardSaid : Prop := Claim7.holds Tryd.pinned (.plain (OpenSpec.upto kindsColumnsSpec)) kindsColumnsUptoCard

/-- THE SECOND FORM's CARD OF 'vellumlaw05.KindsParts'. -/
def kindsPartsUptoCard : Claim7 := { stood := { row := kindsPartsUptoRow, standIns := [], harness := (true, "4598e7837cc00f1d6cd5fae42e66b8fff44247b11ebc17c042a5d4e67499c887"), looks := false }, kinds := [], alts := [], laidByText := true, laidKinds := [.data, .pinned], laidTests := true, laidLooks := .later }
def KindsPartsUptoCardSaid : Prop := Claim7.holds Tryd.pinned (.plain (OpenSpec.upto kindsPartsSpec)) kindsPartsUptoCard

/-- THE SECOND FORM's CARD OF 'vellumlaw05.KindsWalk'. -/
def kindsWalkUptoCard : Claim7 := { stood := { row := kindsWalkUptoRow, standIns := [], harness := (true, "4598e7837cc00f1d6cd5fae42e66b8fff44247b11ebc17c042a5d4e67499c887"), looks := false }, kinds := [], alts := [], laidByText := true, laidKinds := [.data, .pinned], laidTests := true, laidLooks := .later }
def KindsWalkUptoCardSaid : Prop := Claim7.holds Tryd.pinned (.plain (OpenSpec.upto kindsWalkSpec)) kindsWalkUptoCard

/-- THE SECOND FORM's CARD OF 'vellumlaw05.KindsLikes'. -/
def kindsLikesUptoCard : Claim7 := { stood := { row := kindsLikesUptoRow, standIns := [], harness := (true, "4598e7837cc00f1d6cd5fae42e66b8fff44247b11ebc17c042a5d4e67499c887"), looks := false }, kinds := [], alts := [], laidByText := true, laidKinds := [.data, .pinned], laidTests := true, laidLooks := .later }
def KindsLikesUptoCardSaid : Prop := Claim7.holds Tryd.pinned (.plain (OpenSpec.upto kindsLikesSpec)) kindsLikesUptoCard

/-- THE SECOND FORM's CARD OF 'vellumlaw05.KindsNames'. -/
def kindsNamesUptoCard : Claim7 := { stood := { row := kindsNamesUptoRow, standIns := [], harness := (true, "4598e7837cc00f1d6cd5fae42e66b8fff44247b11ebc17c042a5d4e67499c887"), looks := false }, kinds := [], alts := [], laidByText := true, laidKinds := [.data, .pinned], laidTests := true, laidLooks := .later }
def KindsNamesUptoCardSaid : Prop := Claim7.holds Tryd.pinned (.plain (OpenSpec.upto kindsNamesSpec)) kindsNamesUptoCard

/-- THE SECOND FORM's CARD OF 'vellumlaw05.KindsAdd'. -/
def kindsAddUptoCard : Claim7 := { stood := { row := kindsAddUptoRow, standIns := [], harness := (true, "4598e7837cc00f1d6cd5fae42e66b8fff44247b11ebc17c042a5d4e67499c887"), looks := false }, kinds := [], alts := [], laidByText := true, laidKinds := [.data, .pinned], laidTests := true, laidLooks := .later }
def KindsAddUptoCardSaid : Prop := Claim7.holds Tryd.pinned (.plain (OpenSpec.upto kindsAddSpec)) kindsAddUptoCard

/-- THE SECOND FORM's CARD OF 'vellumlaw05.KindsAlike'. -/
def kindsAlikeUptoCard : Claim7 := { stood := { row := kindsAlikeUptoRow, standIns := [], harness := (true, "4598e7837cc00f1d6cd5fae42e66b8fff44247b11ebc17c042a5d4e67499c887"), looks := false }, kinds := [], alts := [], laidByText := true, laidKinds := [.data, .pinned], laidTests := true, laidLooks := .later }
def KindsAlikeUptoCardSaid : Prop := Claim7.holds Tryd.pinned (.plain (OpenSpec.upto kindsAlikeSpec)) kindsAlikeUptoCard
end Rows
end Go.Proofs.YtkknmbkfiiidmaaDoor
