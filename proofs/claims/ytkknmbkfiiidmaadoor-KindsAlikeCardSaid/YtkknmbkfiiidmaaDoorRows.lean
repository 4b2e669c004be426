/-
  NARROWER THAN 'FOR EVERY INPUT', by the rows' own cells (each row's printed sentence says how): KindsRunes: laid · KindsStops: laid · KindsColumns: laid · KindsParts: laid · KindsWalk: laid · KindsLikes: laid · KindsNames: laid · KindsAdd: laid · KindsAlike: laid.
  DERIVED. THE GIVEN ROWS OF THIS SEAT. 9 by the template 'for every input the law returns true; each argument reads behind the call as it read before'; 0 by the template 'total and deterministic' (their statements: YtkknmbkfiiidmaaDoorTotals.lean).
  GIVEN WITH THE SEED: the statements are not yours to turn. If you find one false, say at which input.
  Laid BY PROGRAM, IN A SANDBOX (cutbox-rows.mjs): the forced cells as the released guide's own fill.sh prints them over the translation 32b132738b956a34… (all of the seat's roots in one cut). By AI agents, Wed Nov 11 2026. No macro, syntax, notation, axiom, sorry.
-/
import Derived.Test.YtkknmbkfiiidmaaDoorChecked
import GoSem.PinnedTables
import GoSem.Claim
import GoSem.ClaimJoined
import GoSem.ClaimMapViews
import Derived.JoinedTies
import Derived.KernelRfl
namespace Go.Proofs.YtkknmbkfiiidmaaDoor
/- THE CELL 'sum', in the pinned program and in every row, IS THE sha256 OF THE DUMP (.gsa) THAT YtkknmbkfiiidmaaDoorProg.lean LOADS. Nothing in Lean hashes anything: it is a label: what it is worth is what the hold of that sum in a sandbox is worth. -/
noncomputable def Tryd.pinned : Pinned := { name := "ytkknmbkfiiidmaadoor", sum := "32b132738b956a34c8ee044ad52fd46246518a317cd842586b71629c315d95b9", checked := Tryd.checked }
namespace Rows
def none {H : Type} : Left H := { results := [], args := [] }

/- WHAT THE LISTED PACKAGE-LEVEL VARIABLES READ AS WHEN THE CALL BEGINS. Each datum BY PROGRAM (the guide's laid-datum.mjs) off the statement by which the dump's own 'gosem.cut.vars' lays the variable. In a bare row this is a premise. The card (YtkknmbkfiiidmaaDoorCards.lean) ties it to the program's text. -/
def laid_unicode_utf8_acceptRanges {H : Type} : DataW H := .agg [.agg [.lit (.int .u8 128), .lit (.int .u8 191)], .agg [.lit (.int .u8 160), .lit (.int .u8 191)], .agg [.lit (.int .u8 128), .lit (.int .u8 159)], .agg [.lit (.int .u8 144), .lit (.int .u8 191)], .agg [.lit (.int .u8 128), .lit (.int .u8 143)], .agg [.lit (.int .u8 0), .lit (.int .u8 0)], .agg [.lit (.int .u8 0), .lit (.int .u8 0)], .agg [.lit (.int .u8 0), .lit (.int .u8 0)], .agg [.lit (.int .u8 0), .lit (.int .u8 0)], .agg [.lit (.int .u8 0), .lit (.int .u8 0)], .agg [.lit (.int .u8 0), .lit (.int .u8 0)], .agg [.lit (.int .u8 0), .lit (.int .u8 0)], .agg [.lit (.int .u8 0), .lit (.int .u8 0)], .agg [.lit (.int .u8 0), .lit (.int .u8 0)], .agg [.lit (.int .u8 0), .lit (.int .u8 0)], .agg [.lit (.int .u8 0), .lit (.int .u8 0)]]
/-- One of Go's own tables, pinned by name: the form's constant. -/
def laid_unicode_utf8_first : DataW Unit := Go.Pinned.utf8First

/-- 'vellumlaw05.KindsRunes': WHATEVER THE INPUT: true; the input reads as it did. -/
def kindsRunesSpec : ChangeSpec := { name := "kindsRunes", fn := fun _ => fun
  | [d] => { results := [.lit (.bool true)], args := [d] }
  | _ => none }
def kindsRunesRow : OpenClaim := { program := "ytkknmbkfiiidmaadoor", sum := "32b132738b956a34c8ee044ad52fd46246518a317cd842586b71629c315d95b9", func := "vellum/vellumlaw05.KindsRunes", spec := "kindsRunes", unfollowed := true, recurses := true, named := ["unicode/utf8.first", "unicode/utf8.acceptRanges"], apart := false, laid := [("unicode/utf8.acceptRanges", laid_unicode_utf8_acceptRanges), ("unicode/utf8.first", laid_unicode_utf8_first)] }
def KindsRunesSaid : Prop := kindsRunesRow.holds Tryd.pinned (OpenSpec.ofChange kindsRunesSpec)

/-- ITS FALSE NEIGHBOUR: 'it returns false'. Refute it at one input. -/
def kindsRunesWrong : ChangeSpec := { name := "kindsRunes", fn := fun _ => fun
  | [d] => { results := [.lit (.bool false)], args := [d] }
  | _ => none }
def KindsRunesWrongFalsely : Prop := kindsRunesRow.holds Tryd.pinned (OpenSpec.ofChange kindsRunesWrong)

/-- 'vellumlaw05.KindsStops': WHATEVER THE INPUT: true; the input reads as it did. -/
def kindsStopsSpec : ChangeSpec := { name := "kindsStops", fn := fun _ => fun
  | [d1, d2] => { results := [.lit (.bool true)], args := [d1, d2] }
  | _ => none }
def kindsStopsRow : OpenClaim := { program := "ytkknmbkfiiidmaadoor", sum := "32b132738b956a34c8ee044ad52fd46246518a317cd842586b71629c315d95b9", func := "vellum/vellumlaw05.KindsStops", spec := "kindsStops", unfollowed := true, recurses := true, named := ["unicode/utf8.first", "unicode/utf8.acceptRanges"], apart := false, laid := [("unicode/utf8.acceptRanges", laid_unicode_utf8_acceptRanges), ("unicode/utf8.first", laid_unicode_utf8_first)] }
def KindsStopsSaid : Prop := kindsStopsRow.holds Tryd.pinned (OpenSpec.ofChange kindsStopsSpec)

/-- ITS FALSE NEIGHBOUR: 'it returns false'. Refute it at one input. -/
def kindsStopsWrong : ChangeSpec := { name := "kindsStops", fn := fun _ => fun
  | [d1, d2] => { results := [.lit (.bool false)], args := [d1, d2] }
  | _ => none }
def KindsStopsWrongFalsely : Prop := kindsStopsRow.holds Tryd.pinned (OpenSpec.ofChange kindsStopsWrong)

/-- 'vellumlaw05.KindsColumns': WHATEVER THE INPUT: true; the input reads as it did. -/
def kindsColumnsSpec : ChangeSpec := { name := "kindsColumns", fn := fun _ => fun
  | [d1, d2, d3] => { results := [.lit (.bool true)], args := [d1, d2, d3] }
  | _ => none }
def kindsColumnsRow : OpenClaim := { program := "ytkknmbkfiiidmaadoor", sum := "32b132738b956a34c8ee044ad52fd46246518a317cd842586b71629c315d95b9", func := "vellum/vellumlaw05.KindsColumns", spec := "kindsColumns", unfollowed := true, recurses := true, named := ["unicode/utf8.first", "unicode/utf8.acceptRanges"], apart := false, laid := [("unicode/utf8.acceptRanges", laid_unicode_utf8_acceptRanges), ("unicode/utf8.first", laid_unicode_utf8_first)] }
def KindsColumnsSaid : Prop := kindsColumnsRow.holds Tryd.pinned (OpenSpec.ofChange kindsColumnsSpec)

/-- ITS FALSE NEIGHBOUR: 'it returns false'. Refute it at one input. -/
def kindsColumnsWrong : ChangeSpec := { name := "kindsColumns", fn := fun _ => fun
  | [d1, d2, d3] => { results := [.lit (.bool false)], args := [d1, d2, d3] }
  | _ => none }
def KindsColumnsWrongFalsely : Prop := kindsColumnsRow.holds Tryd.pinned (OpenSpec.ofChange kindsColumnsWrong)

/-- 'vellumlaw05.KindsParts': WHATEVER THE INPUT: true; the input reads as it did. -/
def kindsPartsSpec : ChangeSpec := { name := "kindsParts", fn := fun _ => fun
  | [d] => { results := [.lit (.bool true)], args := [d] }
  | _ => none }
def kindsPartsRow : OpenClaim := { program := "ytkknmbkfiiidmaadoor", sum := "32b132738b956a34c8ee044ad52fd46246518a317cd842586b71629c315d95b9", func := "vellum/vellumlaw05.KindsParts", spec := "kindsParts", unfollowed := true, recurses := true, named := ["unicode/utf8.first", "unicode/utf8.acceptRanges"], apart := false, laid := [("unicode/utf8.acceptRanges", laid_unicode_utf8_acceptRanges), ("unicode/utf8.first", laid_unicode_utf8_first)] }
def KindsPartsSaid : Prop := kindsPartsRow.holds Tryd.pinned (OpenSpec.ofChange kindsPartsSpec)

/-- ITS FALSE NEIGHBOUR: 'it returns false'. Refute it at one input. -/
def kindsPartsWrong : ChangeSpec := { name := "kindsParts", fn := fun _ => fun
  | [d] => { results := [.lit (.bool false)], args := [d] }
  | _ => none }
def KindsPartsWrongFalsely : Prop := kindsPartsRow.holds Tryd.pinned (OpenSpec.ofChange kindsPartsWrong)

/-- 'vellumlaw05.KindsWalk': WHATEVER THE INPUT: true; the input reads as it did. -/
def kindsWalkSpec : ChangeSpec := { name := "kindsWalk", fn := fun _ => fun
  | [d1, d2] => { results := [.lit (.bool true)], args := [d1, d2] }
  | _ => none }
def kindsWalkRow : OpenClaim := { program := "ytkknmbkfiiidmaadoor", sum := "32b132738b956a34c8ee044ad52fd46246518a317cd842586b71629c315d95b9", func := "vellum/vellumlaw05.KindsWalk", spec := "kindsWalk", unfollowed := true, recurses := true, named := ["unicode/utf8.first", "unicode/utf8.acceptRanges"], apart := false, laid := [("unicode/utf8.acceptRanges", laid_unicode_utf8_acceptRanges), ("unicode/utf8.first", laid_unicode_utf8_first)] }
def KindsWalkSaid : Prop := kindsWalkRow.holds Tryd.pinned (OpenSpec.ofChange kindsWalkSpec)

/-- ITS FALSE NEIGHBOUR: 'it returns false'. Refute it at one input. -/
def kindsWalkWrong : ChangeSpec := { name := "kindsWalk", fn := fun _ => fun
  | [d1, d2] => { results := [.lit (.bool false)], args := [d1, d2] }
  | _ => none }
def KindsWalkWrongFalsely : Prop := kindsWalkRow.holds Tryd.pinned (OpenSpec.ofChange kindsWalkWrong)

/-- 'vellumlaw05.KindsLikes': WHATEVER THE INPUT: true; the input reads as it did. -/
def kindsLikesSpec : ChangeSpec := { name := "kindsLikes", fn := fun _ => fun
  | [d1, d2] => { results := [.lit (.bool true)], args := [d1, d2] }
  | _ => none }
def kindsLikesRow : OpenClaim := { program := "ytkknmbkfiiidmaadoor", sum := "32b132738b956a34c8ee044ad52fd46246518a317cd842586b71629c315d95b9", func := "vellum/vellumlaw05.KindsLikes", spec := "kindsLikes", unfollowed := true, recurses := true, named := ["unicode/utf8.first", "unicode/utf8.acceptRanges"], apart := false, laid := [("unicode/utf8.acceptRanges", laid_unicode_utf8_acceptRanges), ("unicode/utf8.first", laid_unicode_utf8_first)] }
def KindsLikesSaid : Prop := kindsLikesRow.holds Tryd.pinned (OpenSpec.ofChange kindsLikesSpec)

/-- ITS FALSE NEIGHBOUR: 'it returns false'. Refute it at one input. -/
def kindsLikesWrong : ChangeSpec := { name := "kindsLikes", fn := fun _ => fun
  | [d1, d2] => { results := [.lit (.bool false)], args := [d1, d2] }
  | _ => none }
def KindsLikesWrongFalsely : Prop := kindsLikesRow.holds Tryd.pinned (OpenSpec.ofChange kindsLikesWrong)

/-- 'vellumlaw05.KindsNames': WHATEVER THE INPUT: true; the input reads as it did. -/
def kindsNamesSpec : ChangeSpec := { name := "kindsNames", fn := fun _ => fun
  | [] => { results := [.lit (.bool true)], args := [] }
  | _ => none }
def kindsNamesRow : OpenClaim := { program := "ytkknmbkfiiidmaadoor", sum := "32b132738b956a34c8ee044ad52fd46246518a317cd842586b71629c315d95b9", func := "vellum/vellumlaw05.KindsNames", spec := "kindsNames", unfollowed := true, recurses := true, named := ["unicode/utf8.first", "unicode/utf8.acceptRanges"], apart := false, laid := [("unicode/utf8.acceptRanges", laid_unicode_utf8_acceptRanges), ("unicode/utf8.first", laid_unicode_utf8_first)] }
def KindsNamesSaid : Prop := kindsNamesRow.holds Tryd.pinned (OpenSpec.ofChange kindsNamesSpec)

/-- ITS FALSE NEIGHBOUR: 'it returns false'. Refute it at one input. -/
def kindsNamesWrong : ChangeSpec := { name := "kindsNames", fn := fun _ => fun
  | [] => { results := [.lit (.bool false)], args := [] }
  | _ => none }
def KindsNamesWrongFalsely : Prop := kindsNamesRow.holds Tryd.pinned (OpenSpec.ofChange kindsNamesWrong)

/-- 'vellumlaw05.KindsAdd': WHATEVER THE INPUT: true; the input reads as it did. -/
def kindsAddSpec : ChangeSpec := { name := "kindsAdd", fn := fun _ => fun
  | [d] => { results := [.lit (.bool true)], args := [d] }
  | _ => none }
def kindsAddRow : OpenClaim := { program := "ytkknmbkfiiidmaadoor", sum := "32b132738b956a34c8ee044ad52fd46246518a317cd842586b71629c315d95b9", func := "vellum/vellumlaw05.KindsAdd", spec := "kindsAdd", unfollowed := true, recurses := true, named := ["unicode/utf8.first", "unicode/utf8.acceptRanges"], apart := false, laid := [("unicode/utf8.acceptRanges", laid_unicode_utf8_acceptRanges), ("unicode/utf8.first", laid_unicode_utf8_first)] }
def KindsAddSaid : Prop := kindsAddRow.holds Tryd.pinned (OpenSpec.ofChange kindsAddSpec)

/-- ITS FALSE NEIGHBOUR: 'it returns false'. Refute it at one input. -/
def kindsAddWrong : ChangeSpec := { name := "kindsAdd", fn := fun _ => fun
  | [d] => { results := [.lit (.bool false)], args := [d] }
  | _ => none }
def KindsAddWrongFalsely : Prop := kindsAddRow.holds Tryd.pinned (OpenSpec.ofChange kindsAddWrong)

/-- 'vellumlaw05.KindsAlike': WHATEVER THE INPUT: true; the input reads as it did. -/
def kindsAlikeSpec : ChangeSpec := { name := "kindsAlike", fn := fun _ => fun
  | [d1, d2, d3] => { results := [.lit (.bool true)], args := [d1, d2, d3] }
  | _ => none }
def kindsAlikeRow : OpenClaim := { program := "ytkknmbkfiiidmaadoor", sum := "32b132738b956a34c8ee044ad52fd46246518a317cd842586b71629c315d95b9", func := "vellum/vellumlaw05.KindsAlike", spec := "kindsAlike", unfollowed := true, recurses := true, named := ["unicode/utf8.first", "unicode/utf8.acceptRanges"], apart := false, laid := [("unicode/utf8.acceptRanges", laid_unicode_utf8_acceptRanges), ("unicode/utf8.first", laid_unicode_utf8_first)] }
def KindsAlikeSaid : Prop := kindsAlikeRow.holds Tryd.pinned (OpenSpec.ofChange kindsAlikeSpec)

/-- ITS FALSE NEIGHBOUR: 'it returns false'. Refute it at one input. -/
def kindsAlikeWrong : ChangeSpec := { name := "kindsAlike", fn := fun _ => fun
  | [d1, d2, d3] => { results := [.lit (.bool false)], args := [d1, d2, d3] }
  | _ => none }
def KindsAlikeWrongFalsely : Prop := kindsAlikeRow.holds Tryd.pinned (OpenSpec.ofChange kindsAlikeWrong)

/- THE SECOND FORM. 'bulk': how many values and letters a reading holds, each counted each time it is reached (what is shared counts as often as it is met; a slice's spare places count too). A statement '..UptoSaid' is the law's where the arguments, and the package variables that the reading takes, are together of bulk at most 1048576: NARROWER than '..Said'. Prove '..Said' where nothing that the law and all that it calls make is longer than what came in: it says more and counts as full. Else prove '..UptoSaid'. A law counts once. -/
mutual
def uptoBulk {H : Type} : DataW H → Nat
  | .lit (.string bytes) => bytes.length + 1
  | .lit _ => 1
  | .nil => 1
  | .ptr d => uptoBulk d + 1
  | .slice elems spare => uptoBulkAll elems + uptoBulkAll spare + 1
  | .agg parts => uptoBulkAll parts + 1
  | .iface _ d => uptoBulk d + 1
  | .map entries => uptoBulkEntries entries + 1
  | .held _ => 1
def uptoBulkAll {H : Type} : List (DataW H) → Nat
  | [] => 0
  | d :: r => uptoBulk d + uptoBulkAll r
def uptoBulkEntries {H : Type} : List (Lit × DataW H) → Nat
  | [] => 0
  | x :: r => uptoBulkEntry x + uptoBulkEntries r
def uptoBulkEntry {H : Type} : Lit × DataW H → Nat
  | (.string bytes, d) => bytes.length + uptoBulk d + 1
  | (_, d) => uptoBulk d + 1
 end
def uptoSmall : (H : Type) → List (DataW H) → Bool := fun _ ds => decide (uptoBulkAll ds ≤ 1048576)
def OpenSpec.upto (s : _root_.Go.ChangeSpec) : _root_.Go.OpenSpec := { _root_.Go.OpenSpec.ofChange s with cond := some uptoSmall }

/-- 'vellumlaw05.KindsRunes', WHERE WHAT IT READS IS OF BULK AT MOST 1048576: true; the input reads as it did. -/
def kindsRunesUptoRow : OpenClaim := { program := "ytkknmbkfiiidmaadoor", sum := "32b132738b956a34c8ee044ad52fd46246518a317cd842586b71629c315d95b9", func := "vellum/vellumlaw05.KindsRunes", spec := "kindsRunes", unfollowed := true, recurses := true, named := ["unicode/utf8.first", "unicode/utf8.acceptRanges"], apart := false, laid := [("unicode/utf8.acceptRanges", laid_unicode_utf8_acceptRanges), ("unicode/utf8.first", laid_unicode_utf8_first)], narrowed := true }
def KindsRunesUptoSaid : Prop := kindsRunesUptoRow.holds Tryd.pinned (OpenSpec.upto kindsRunesSpec)

/-- 'vellumlaw05.KindsStops', WHERE WHAT IT READS IS OF BULK AT MOST 1048576: true; the input reads as it did. -/
def kindsStopsUptoRow : OpenClaim := { program := "ytkknmbkfiiidmaadoor", sum := "32b132738b956a34c8ee044ad52fd46246518a317cd842586b71629c315d95b9", func := "vellum/vellumlaw05.KindsStops", spec := "kindsStops", unfollowed := true, recurses := true, named := ["unicode/utf8.first", "unicode/utf8.acceptRanges"], apart := false, laid := [("unicode/utf8.acceptRanges", laid_unicode_utf8_acceptRanges), ("unicode/utf8.first", laid_unicode_utf8_first)], narrowed := true }
def KindsStopsUptoSaid : Prop := kindsStopsUptoRow.holds Tryd.pinned (OpenSpec.upto kindsStopsSpec)

/-- 'vellumlaw05.KindsColumns', WHERE WHAT IT READS IS OF BULK AT MOST 1048576: true; the input reads as it did. -/
def kindsColumnsUptoRow : OpenClaim := { program := "ytkknmbkfiiidmaadoor", sum := "32b132738b956a34c8ee044ad52fd46246518a317cd842586b71629c315d95b9", func := "vellum/vellumlaw05.KindsColumns", spec := "kindsColumns", unfollowed := true, recurses := true, named := ["unicode/utf8.first", "unicode/utf8.acceptRanges"], apart := false, laid := [("unicode/utf8.acceptRanges", laid_unicode_utf8_acceptRanges), ("unicode/utf8.first", laid_unicode_utf8_first)], narrowed := true }
def KindsColumnsUptoSaid : Prop := kindsColumnsUptoRow.holds Tryd.pinned (OpenSpec.upto kindsColumnsSpec)

/-- 'vellumlaw05.KindsParts', WHERE WHAT IT READS IS OF BULK AT MOST 1048576: true; the input reads as it did. -/
def kindsPartsUptoRow : OpenClaim := { program := "ytkknmbkfiiidmaadoor", sum := "32b132738b956a34c8ee044ad52fd46246518a317cd842586b71629c315d95b9", func := "vellum/vellumlaw05.KindsParts", spec := "kindsParts", unfollowed := true, recurses := true, named := ["unicode/utf8.first", "unicode/utf8.acceptRanges"], apart := false, laid := [("unicode/utf8.acceptRanges", laid_unicode_utf8_acceptRanges), ("unicode/utf8.first", laid_unicode_utf8_first)], narrowed := true }
def KindsPartsUptoSaid : Prop := kindsPartsUptoRow.holds Tryd.pinned (OpenSpec.upto kindsPartsSpec)

/-- 'vellumlaw05.KindsWalk', WHERE WHAT IT READS IS OF BULK AT MOST 1048576: true; the input reads as it did. -/
def kindsWalkUptoRow : OpenClaim := { program := "ytkknmbkfiiidmaadoor", sum := "32b132738b956a34c8ee044ad52fd46246518a317cd842586b71629c315d95b9", func := "vellum/vellumlaw05.KindsWalk", spec := "kindsWalk", unfollowed := true, recurses := true, named := ["unicode/utf8.first", "unicode/utf8.acceptRanges"], apart := false, laid := [("unicode/utf8.acceptRanges", laid_unicode_utf8_acceptRanges), ("unicode/utf8.first", laid_unicode_utf8_first)], narrowed := true }
def KindsWalkUptoSaid : Prop := kindsWalkUptoRow.holds Tryd.pinned (OpenSpec.upto kindsWalkSpec)

/-- 'vellumlaw05.KindsLikes', WHERE WHAT IT READS IS OF BULK AT MOST 1048576: true; the input reads as it did. -/
def kindsLikesUptoRow : OpenClaim := { program := "ytkknmbkfiiidmaadoor", sum := "32b132738b956a34c8ee044ad52fd46246518a317cd842586b71629c315d95b9", func := "vellum/vellumlaw05.KindsLikes", spec := "kindsLikes", unfollowed := true, recurses := true, named := ["unicode/utf8.first", "unicode/utf8.acceptRanges"], apart := false, laid := [("unicode/utf8.acceptRanges", laid_unicode_utf8_acceptRanges), ("unicode/utf8.first", laid_unicode_utf8_first)], narrowed := true }
def KindsLikesUptoSaid : Prop := kindsLikesUptoRow.holds Tryd.pinned (OpenSpec.upto kindsLikesSpec)

/-- 'vellumlaw05.KindsNames', WHERE WHAT IT READS IS OF BULK AT MOST 1048576: true; the input reads as it did. -/
def kindsNamesUptoRow : OpenClaim := { program := "ytkknmbkfiiidmaadoor", sum := "32b132738b956a34c8ee044ad52fd46246518a317cd842586b71629c315d95b9", func := "vellum/vellumlaw05.KindsNames", spec := "kindsNames", unfollowed := true, recurses := true, named := ["unicode/utf8.first", "unicode/utf8.acceptRanges"], apart := false, laid := [("unicode/utf8.acceptRanges", laid_unicode_utf8_acceptRanges), ("unicode/utf8.first", laid_unicode_utf8_first)], narrowed := true }
def KindsNamesUptoSaid : Prop := kindsNamesUptoRow.holds Tryd.pinned (OpenSpec.upto kindsNamesSpec)

/-- 'vellumlaw05.KindsAdd', WHERE WHAT IT READS IS OF BULK AT MOST 1048576: true; the input reads as it did. -/
def kindsAddUptoRow : OpenClaim := { program := "ytkknmbkfiiidmaadoor", sum := "32b132738b956a34c8ee044ad52fd46246518a317cd842586b71629c315d95b9", func := "vellum/vellumlaw05.KindsAdd", spec := "kindsAdd", unfollowed := true, recurses := true, named := ["unicode/utf8.first", "unicode/utf8.acceptRanges"], apart := false, laid := [("unicode/utf8.acceptRanges", laid_unicode_utf8_acceptRanges), ("unicode/utf8.first", laid_unicode_utf8_first)], narrowed := true }
def KindsAddUptoSaid : Prop := kindsAddUptoRow.holds Tryd.pinned (OpenSpec.upto kindsAddSpec)

/-- 'vellumlaw05.KindsAlike', WHERE WHAT IT READS IS OF BULK AT MOST 1048576: true; the input reads as it did. -/
def kindsAlikeUptoRow : OpenClaim := { program := "ytkknmbkfiiidmaadoor", sum := "32b132738b956a34c8ee044ad52fd46246518a317cd842586b71629c315d95b9", func := "vellum/vellumlaw05.KindsAlike", spec := "kindsAlike", unfollowed := true, recurses := true, named := ["unicode/utf8.first", "unicode/utf8.acceptRanges"], apart := false, laid := [("unicode/utf8.acceptRanges", laid_unicode_utf8_acceptRanges), ("unicode/utf8.first", laid_unicode_utf8_first)], narrowed := true }
def KindsAlikeUptoSaid : Prop := kindsAlikeUptoRow.holds Tryd.pinned (OpenSpec.upto kindsAlikeSpec)

end Rows
end Go.Proofs.YtkknmbkfiiidmaaDoor
