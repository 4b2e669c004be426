/-
  NARROWER THAN 'FOR EVERY INPUT', by the rows' own cells (each row's printed sentence says how): CursorsShifts: laid · CursorsMoves: laid · CursorsWords: laid · CursorsNames: laid · CursorsWalk: laid · CursorsFollow: laid · CursorsLines: laid · CursorsPacks: laid · CursorsBack: laid · CursorsLists: laid.
  DERIVED. THE GIVEN ROWS OF THIS SEAT. 10 by the template 'for every input the law returns true; each argument reads behind the call as it read before'; 0 by the template 'total and deterministic' (their statements: YtfoppbignompkaaDoorTotals.lean).
  GIVEN WITH THE SEED: the statements are not yours to turn. If you find one false, say at which input.
  Laid BY PROGRAM, IN A SANDBOX (cutbox-rows.mjs): the forced cells as the released guide's own fill.sh prints them over the translation dd8fdf5de356477b… (all of the seat's roots in one cut). By AI agents, Wed Nov 11 2026. No macro, syntax, notation, axiom, sorry.
-/
import Derived.Test.YtfoppbignompkaaDoorChecked
import GoSem.PinnedTables
import GoSem.Claim
import GoSem.ClaimJoined
import GoSem.ClaimMapViews
import Derived.JoinedTies
import Derived.KernelRfl
namespace Go.Proofs.YtfoppbignompkaaDoor
/- THE CELL 'sum', in the pinned program and in every row, IS THE sha256 OF THE DUMP (.gsa) THAT YtfoppbignompkaaDoorProg.lean LOADS. Nothing in Lean hashes anything: it is a label: what it is worth is what the hold of that sum in a sandbox is worth. -/
noncomputable def Tryd.pinned : Pinned := { name := "ytfoppbignompkaadoor", sum := "dd8fdf5de356477b58957970c338d6b726fa9d17741bddb92d06c8c4bc0d2383", checked := Tryd.checked }
namespace Rows
def none {H : Type} : Left H := { results := [], args := [] }

/- WHAT THE LISTED PACKAGE-LEVEL VARIABLES READ AS WHEN THE CALL BEGINS. Each datum BY PROGRAM (the guide's laid-datum.mjs) off the statement by which the dump's own 'gosem.cut.vars' lays the variable. In a bare row this is a premise. The card (YtfoppbignompkaaDoorCards.lean) ties it to the program's text. -/
def laid_unicode_utf8_acceptRanges {H : Type} : DataW H := .agg [.agg [.lit (.int .u8 128), .lit (.int .u8 191)], .agg [.lit (.int .u8 160), .lit (.int .u8 191)], .agg [.lit (.int .u8 128), .lit (.int .u8 159)], .agg [.lit (.int .u8 144), .lit (.int .u8 191)], .agg [.lit (.int .u8 128), .lit (.int .u8 143)], .agg [.lit (.int .u8 0), .lit (.int .u8 0)], .agg [.lit (.int .u8 0), .lit (.int .u8 0)], .agg [.lit (.int .u8 0), .lit (.int .u8 0)], .agg [.lit (.int .u8 0), .lit (.int .u8 0)], .agg [.lit (.int .u8 0), .lit (.int .u8 0)], .agg [.lit (.int .u8 0), .lit (.int .u8 0)], .agg [.lit (.int .u8 0), .lit (.int .u8 0)], .agg [.lit (.int .u8 0), .lit (.int .u8 0)], .agg [.lit (.int .u8 0), .lit (.int .u8 0)], .agg [.lit (.int .u8 0), .lit (.int .u8 0)], .agg [.lit (.int .u8 0), .lit (.int .u8 0)]]
/-- One of Go's own tables, pinned by name: the form's constant. -/
def laid_unicode_utf8_first : DataW Unit := Go.Pinned.utf8First

/-- 'vellumlaw20.CursorsShifts': WHATEVER THE INPUT: true; the input reads as it did. -/
def cursorsShiftsSpec : ChangeSpec := { name := "cursorsShifts", fn := fun _ => fun
  | [d1, d2] => { results := [.lit (.bool true)], args := [d1, d2] }
  | _ => none }
def cursorsShiftsRow : OpenClaim := { program := "ytfoppbignompkaadoor", sum := "dd8fdf5de356477b58957970c338d6b726fa9d17741bddb92d06c8c4bc0d2383", func := "vellum/vellumlaw20.CursorsShifts", spec := "cursorsShifts", unfollowed := true, recurses := true, named := ["unicode/utf8.first", "unicode/utf8.acceptRanges"], apart := false, laid := [("unicode/utf8.acceptRanges", laid_unicode_utf8_acceptRanges), ("unicode/utf8.first", laid_unicode_utf8_first)] }
def CursorsShiftsSaid : Prop := cursorsShiftsRow.holds Tryd.pinned (OpenSpec.ofChange cursorsShiftsSpec)

/-- ITS FALSE NEIGHBOUR: 'it returns false'. Refute it at one input. -/
def cursorsShiftsWrong : ChangeSpec := { name := "cursorsShifts", fn := fun _ => fun
  | [d1, d2] => { results := [.lit (.bool false)], args := [d1, d2] }
  | _ => none }
def CursorsShiftsWrongFalsely : Prop := cursorsShiftsRow.holds Tryd.pinned (OpenSpec.ofChange cursorsShiftsWrong)

/-- 'vellumlaw20.CursorsMoves': WHATEVER THE INPUT: true; the input reads as it did. -/
def cursorsMovesSpec : ChangeSpec := { name := "cursorsMoves", fn := fun _ => fun
  | [d] => { results := [.lit (.bool true)], args := [d] }
  | _ => none }
def cursorsMovesRow : OpenClaim := { program := "ytfoppbignompkaadoor", sum := "dd8fdf5de356477b58957970c338d6b726fa9d17741bddb92d06c8c4bc0d2383", func := "vellum/vellumlaw20.CursorsMoves", spec := "cursorsMoves", unfollowed := true, recurses := true, named := ["unicode/utf8.first", "unicode/utf8.acceptRanges"], apart := false, laid := [("unicode/utf8.acceptRanges", laid_unicode_utf8_acceptRanges), ("unicode/utf8.first", laid_unicode_utf8_first)] }
def CursorsMovesSaid : Prop := cursorsMovesRow.holds Tryd.pinned (OpenSpec.ofChange cursorsMovesSpec)

/-- ITS FALSE NEIGHBOUR: 'it returns false'. Refute it at one input. -/
def cursorsMovesWrong : ChangeSpec := { name := "cursorsMoves", fn := fun _ => fun
  | [d] => { results := [.lit (.bool false)], args := [d] }
  | _ => none }
def CursorsMovesWrongFalsely : Prop := cursorsMovesRow.holds Tryd.pinned (OpenSpec.ofChange cursorsMovesWrong)

/-- 'vellumlaw20.CursorsWords': WHATEVER THE INPUT: true; the input reads as it did. -/
def cursorsWordsSpec : ChangeSpec := { name := "cursorsWords", fn := fun _ => fun
  | [d1, d2] => { results := [.lit (.bool true)], args := [d1, d2] }
  | _ => none }
def cursorsWordsRow : OpenClaim := { program := "ytfoppbignompkaadoor", sum := "dd8fdf5de356477b58957970c338d6b726fa9d17741bddb92d06c8c4bc0d2383", func := "vellum/vellumlaw20.CursorsWords", spec := "cursorsWords", unfollowed := true, recurses := true, named := ["unicode/utf8.first", "unicode/utf8.acceptRanges"], apart := false, laid := [("unicode/utf8.acceptRanges", laid_unicode_utf8_acceptRanges), ("unicode/utf8.first", laid_unicode_utf8_first)] }
def CursorsWordsSaid : Prop := cursorsWordsRow.holds Tryd.pinned (OpenSpec.ofChange cursorsWordsSpec)

/-- ITS FALSE NEIGHBOUR: 'it returns false'. Refute it at one input. -/
def cursorsWordsWrong : ChangeSpec := { name := "cursorsWords", fn := fun _ => fun
  | [d1, d2] => { results := [.lit (.bool false)], args := [d1, d2] }
  | _ => none }
def CursorsWordsWrongFalsely : Prop := cursorsWordsRow.holds Tryd.pinned (OpenSpec.ofChange cursorsWordsWrong)

/-- 'vellumlaw20.CursorsNames': WHATEVER THE INPUT: true; the input reads as it did. -/
def cursorsNamesSpec : ChangeSpec := { name := "cursorsNames", fn := fun _ => fun
  | [] => { results := [.lit (.bool true)], args := [] }
  | _ => none }
def cursorsNamesRow : OpenClaim := { program := "ytfoppbignompkaadoor", sum := "dd8fdf5de356477b58957970c338d6b726fa9d17741bddb92d06c8c4bc0d2383", func := "vellum/vellumlaw20.CursorsNames", spec := "cursorsNames", unfollowed := true, recurses := true, named := ["unicode/utf8.first", "unicode/utf8.acceptRanges"], apart := false, laid := [("unicode/utf8.acceptRanges", laid_unicode_utf8_acceptRanges), ("unicode/utf8.first", laid_unicode_utf8_first)] }
def CursorsNamesSaid : Prop := cursorsNamesRow.holds Tryd.pinned (OpenSpec.ofChange cursorsNamesSpec)

/-- ITS FALSE NEIGHBOUR: 'it returns false'. Refute it at one input. -/
def cursorsNamesWrong : ChangeSpec := { name := "cursorsNames", fn := fun _ => fun
  | [] => { results := [.lit (.bool false)], args := [] }
  | _ => none }
def CursorsNamesWrongFalsely : Prop := cursorsNamesRow.holds Tryd.pinned (OpenSpec.ofChange cursorsNamesWrong)

/-- 'vellumlaw20.CursorsWalk': WHATEVER THE INPUT: true; the input reads as it did. -/
def cursorsWalkSpec : ChangeSpec := { name := "cursorsWalk", fn := fun _ => fun
  | [d1, d2] => { results := [.lit (.bool true)], args := [d1, d2] }
  | _ => none }
def cursorsWalkRow : OpenClaim := { program := "ytfoppbignompkaadoor", sum := "dd8fdf5de356477b58957970c338d6b726fa9d17741bddb92d06c8c4bc0d2383", func := "vellum/vellumlaw20.CursorsWalk", spec := "cursorsWalk", unfollowed := true, recurses := true, named := ["unicode/utf8.first", "unicode/utf8.acceptRanges"], apart := false, laid := [("unicode/utf8.acceptRanges", laid_unicode_utf8_acceptRanges), ("unicode/utf8.first", laid_unicode_utf8_first)] }
def CursorsWalkSaid : Prop := cursorsWalkRow.holds Tryd.pinned (OpenSpec.ofChange cursorsWalkSpec)

/-- ITS FALSE NEIGHBOUR: 'it returns false'. Refute it at one input. -/
def cursorsWalkWrong : ChangeSpec := { name := "cursorsWalk", fn := fun _ => fun
  | [d1, d2] => { results := [.lit (.bool false)], args := [d1, d2] }
  | _ => none }
def CursorsWalkWrongFalsely : Prop := cursorsWalkRow.holds Tryd.pinned (OpenSpec.ofChange cursorsWalkWrong)

/-- 'vellumlaw20.CursorsFollow': WHATEVER THE INPUT: true; the input reads as it did. -/
def cursorsFollowSpec : ChangeSpec := { name := "cursorsFollow", fn := fun _ => fun
  | [d] => { results := [.lit (.bool true)], args := [d] }
  | _ => none }
def cursorsFollowRow : OpenClaim := { program := "ytfoppbignompkaadoor", sum := "dd8fdf5de356477b58957970c338d6b726fa9d17741bddb92d06c8c4bc0d2383", func := "vellum/vellumlaw20.CursorsFollow", spec := "cursorsFollow", unfollowed := true, recurses := true, named := ["unicode/utf8.first", "unicode/utf8.acceptRanges"], apart := false, laid := [("unicode/utf8.acceptRanges", laid_unicode_utf8_acceptRanges), ("unicode/utf8.first", laid_unicode_utf8_first)] }
def CursorsFollowSaid : Prop := cursorsFollowRow.holds Tryd.pinned (OpenSpec.ofChange cursorsFollowSpec)

/-- ITS FALSE NEIGHBOUR: 'it returns false'. Refute it at one input. -/
def cursorsFollowWrong : ChangeSpec := { name := "cursorsFollow", fn := fun _ => fun
  | [d] => { results := [.lit (.bool false)], args := [d] }
  | _ => none }
def CursorsFollowWrongFalsely : Prop := cursorsFollowRow.holds Tryd.pinned (OpenSpec.ofChange cursorsFollowWrong)

/-- 'vellumlaw20.CursorsLines': WHATEVER THE INPUT: true; the input reads as it did. -/
def cursorsLinesSpec : ChangeSpec := { name := "cursorsLines", fn := fun _ => fun
  | [d1, d2] => { results := [.lit (.bool true)], args := [d1, d2] }
  | _ => none }
def cursorsLinesRow : OpenClaim := { program := "ytfoppbignompkaadoor", sum := "dd8fdf5de356477b58957970c338d6b726fa9d17741bddb92d06c8c4bc0d2383", func := "vellum/vellumlaw20.CursorsLines", spec := "cursorsLines", unfollowed := true, recurses := true, named := ["unicode/utf8.first", "unicode/utf8.acceptRanges"], apart := false, laid := [("unicode/utf8.acceptRanges", laid_unicode_utf8_acceptRanges), ("unicode/utf8.first", laid_unicode_utf8_first)] }
def CursorsLinesSaid : Prop := cursorsLinesRow.holds Tryd.pinned (OpenSpec.ofChange cursorsLinesSpec)

/-- ITS FALSE NEIGHBOUR: 'it returns false'. Refute it at one input. -/
def cursorsLinesWrong : ChangeSpec := { name := "cursorsLines", fn := fun _ => fun
  | [d1, d2] => { results := [.lit (.bool false)], args := [d1, d2] }
  | _ => none }
def CursorsLinesWrongFalsely : Prop := cursorsLinesRow.holds Tryd.pinned (OpenSpec.ofChange cursorsLinesWrong)

/-- 'vellumlaw20.CursorsPacks': WHATEVER THE INPUT: true; the input reads as it did. -/
def cursorsPacksSpec : ChangeSpec := { name := "cursorsPacks", fn := fun _ => fun
  | [d1, d2] => { results := [.lit (.bool true)], args := [d1, d2] }
  | _ => none }
def cursorsPacksRow : OpenClaim := { program := "ytfoppbignompkaadoor", sum := "dd8fdf5de356477b58957970c338d6b726fa9d17741bddb92d06c8c4bc0d2383", func := "vellum/vellumlaw20.CursorsPacks", spec := "cursorsPacks", unfollowed := true, recurses := true, named := ["unicode/utf8.first", "unicode/utf8.acceptRanges"], apart := false, laid := [("unicode/utf8.acceptRanges", laid_unicode_utf8_acceptRanges), ("unicode/utf8.first", laid_unicode_utf8_first)] }
def CursorsPacksSaid : Prop := cursorsPacksRow.holds Tryd.pinned (OpenSpec.ofChange cursorsPacksSpec)

/-- ITS FALSE NEIGHBOUR: 'it returns false'. Refute it at one input. -/
def cursorsPacksWrong : ChangeSpec := { name := "cursorsPacks", fn := fun _ => fun
  | [d1, d2] => { results := [.lit (.bool false)], args := [d1, d2] }
  | _ => none }
def CursorsPacksWrongFalsely : Prop := cursorsPacksRow.holds Tryd.pinned (OpenSpec.ofChange cursorsPacksWrong)

/-- 'vellumlaw20.CursorsBack': WHATEVER THE INPUT: true; the input reads as it did. -/
def cursorsBackSpec : ChangeSpec := { name := "cursorsBack", fn := fun _ => fun
  | [d1, d2] => { results := [.lit (.bool true)], args := [d1, d2] }
  | _ => none }
def cursorsBackRow : OpenClaim := { program := "ytfoppbignompkaadoor", sum := "dd8fdf5de356477b58957970c338d6b726fa9d17741bddb92d06c8c4bc0d2383", func := "vellum/vellumlaw20.CursorsBack", spec := "cursorsBack", unfollowed := true, recurses := true, named := ["unicode/utf8.first", "unicode/utf8.acceptRanges"], apart := false, laid := [("unicode/utf8.acceptRanges", laid_unicode_utf8_acceptRanges), ("unicode/utf8.first", laid_unicode_utf8_first)] }
def CursorsBackSaid : Prop := cursorsBackRow.holds Tryd.pinned (OpenSpec.ofChange cursorsBackSpec)

/-- ITS FALSE NEIGHBOUR: 'it returns false'. Refute it at one input. -/
def cursorsBackWrong : ChangeSpec := { name := "cursorsBack", fn := fun _ => fun
  | [d1, d2] => { results := [.lit (.bool false)], args := [d1, d2] }
  | _ => none }
def CursorsBackWrongFalsely : Prop := cursorsBackRow.holds Tryd.pinned (OpenSpec.ofChange cursorsBackWrong)

/-- 'vellumlaw20.CursorsLists': WHATEVER THE INPUT: true; the input reads as it did. -/
def cursorsListsSpec : ChangeSpec := { name := "cursorsLists", fn := fun _ => fun
  | [d1, d2, d3] => { results := [.lit (.bool true)], args := [d1, d2, d3] }
  | _ => none }
def cursorsListsRow : OpenClaim := { program := "ytfoppbignompkaadoor", sum := "dd8fdf5de356477b58957970c338d6b726fa9d17741bddb92d06c8c4bc0d2383", func := "vellum/vellumlaw20.CursorsLists", spec := "cursorsLists", inPlace := ["slices.overlaps[vellum/api.Cursor]"], unfollowed := true, recurses := true, named := ["unicode/utf8.first", "unicode/utf8.acceptRanges"], apart := false, laid := [("unicode/utf8.acceptRanges", laid_unicode_utf8_acceptRanges), ("unicode/utf8.first", laid_unicode_utf8_first)] }
def CursorsListsSaid : Prop := cursorsListsRow.holds Tryd.pinned (OpenSpec.ofChange cursorsListsSpec)

/-- ITS FALSE NEIGHBOUR: 'it returns false'. Refute it at one input. -/
def cursorsListsWrong : ChangeSpec := { name := "cursorsLists", fn := fun _ => fun
  | [d1, d2, d3] => { results := [.lit (.bool false)], args := [d1, d2, d3] }
  | _ => none }
def CursorsListsWrongFalsely : Prop := cursorsListsRow.holds Tryd.pinned (OpenSpec.ofChange cursorsListsWrong)

/- THE SECOND FORM. 'bulk': how many values and letters a reading holds, each counted each time it is reached (what is shared counts as often as it is met; a slice's spare places count too). A statement '..UptoSaid' is the law's where the arguments, and the package variables that the reading takes, are together of bulk at most 1048576: NARROWER than '..Said'. Prove '..Said' where nothing that the law and all that it calls make is longer than what came in: it says more and counts as full. Else prove '..UptoSaid'. A law counts once. -/
mutual
def uptoBulk {H : Type} : DataW H → Nat
  | .lit (.string bytes) => bytes.length + 1
  | .lit _ => 1
  | .nil => 1
  | .ptr d => uptoBulk d + 1
  | .slice elems spare => uptoBulkAll elems + uptoBulkAll spare + 1
  | .agg parts => uptoBulkAll parts + 1
  | .iface _ d => uptoBulk d + 1
  | .map entries => uptoBulkEntries entries + 1
  | .held _ => 1
def uptoBulkAll {H : Type} : List (DataW H) → Nat
  | [] => 0
  | d :: r => uptoBulk d + uptoBulkAll r
def uptoBulkEntries {H : Type} : List (Lit × DataW H) → Nat
  | [] => 0
  | x :: r => uptoBulkEntry x + uptoBulkEntries r
def uptoBulkEntry {H : Type} : Lit × DataW H → Nat
  | (.string bytes, d) => bytes.length + uptoBulk d + 1
  | (_, d) => uptoBulk d + 1
 end
def uptoSmall : (H : Type) → List (DataW H) → Bool := fun _ ds => decide (uptoBulkAll ds ≤ 1048576)
def OpenSpec.upto (s : _root_.Go.ChangeSpec) : _root_.Go.OpenSpec := { _root_.Go.OpenSpec.ofChange s with cond := some uptoSmall }

/-- 'vellumlaw20.CursorsShifts', WHERE WHAT IT READS IS OF BULK AT MOST 1048576: true; the input reads as it did. -/
def cursorsShiftsUptoRow : OpenClaim := { program := "ytfoppbignompkaadoor", sum := "dd8fdf5de356477b58957970c338d6b726fa9d17741bddb92d06c8c4bc0d2383", func := "vellum/vellumlaw20.CursorsShifts", spec := "cursorsShifts", unfollowed := true, recurses := true, named := ["unicode/utf8.first", "unicode/utf8.acceptRanges"], apart := false, laid := [("unicode/utf8.acceptRanges", laid_unicode_utf8_acceptRanges), ("unicode/utf8.first", laid_unicode_utf8_first)], narrowed := true }
def CursorsShiftsUptoSaid : Prop := cursorsShiftsUptoRow.holds Tryd.pinned (OpenSpec.upto cursorsShiftsSpec)

/-- 'vellumlaw20.CursorsMoves', WHERE WHAT IT READS IS OF BULK AT MOST 1048576: true; the input reads as it did. -/
def cursorsMovesUptoRow : OpenClaim := { program := "ytfoppbignompkaadoor", sum := "dd8fdf5de356477b58957970c338d6b726fa9d17741bddb92d06c8c4bc0d2383", func := "vellum/vellumlaw20.CursorsMoves", spec := "cursorsMoves", unfollowed := true, recurses := true, named := ["unicode/utf8.first", "unicode/utf8.acceptRanges"], apart := false, laid := [("unicode/utf8.acceptRanges", laid_unicode_utf8_acceptRanges), ("unicode/utf8.first", laid_unicode_utf8_first)], narrowed := true }
def CursorsMovesUptoSaid : Prop := cursorsMovesUptoRow.holds Tryd.pinned (OpenSpec.upto cursorsMovesSpec)

/-- 'vellumlaw20.CursorsWords', WHERE WHAT IT READS IS OF BULK AT MOST 1048576: true; the input reads as it did. -/
def cursorsWordsUptoRow : OpenClaim := { program := "ytfoppbignompkaadoor", sum := "dd8fdf5de356477b58957970c338d6b726fa9d17741bddb92d06c8c4bc0d2383", func := "vellum/vellumlaw20.CursorsWords", spec := "cursorsWords", unfollowed := true, recurses := true, named := ["unicode/utf8.first", "unicode/utf8.acceptRanges"], apart := false, laid := [("unicode/utf8.acceptRanges", laid_unicode_utf8_acceptRanges), ("unicode/utf8.first", laid_unicode_utf8_first)], narrowed := true }
def CursorsWordsUptoSaid : Prop := cursorsWordsUptoRow.holds Tryd.pinned (OpenSpec.upto cursorsWordsSpec)

/-- 'vellumlaw20.CursorsNames', WHERE WHAT IT READS IS OF BULK AT MOST 1048576: true; the input reads as it did. -/
def cursorsNamesUptoRow : OpenClaim := { program := "ytfoppbignompkaadoor", sum := "dd8fdf5de356477b58957970c338d6b726fa9d17741bddb92d06c8c4bc0d2383", func := "vellum/vellumlaw20.CursorsNames", spec := "cursorsNames", unfollowed := true, recurses := true, named := ["unicode/utf8.first", "unicode/utf8.acceptRanges"], apart := false, laid := [("unicode/utf8.acceptRanges", laid_unicode_utf8_acceptRanges), ("unicode/utf8.first", laid_unicode_utf8_first)], narrowed := true }
def CursorsNamesUptoSaid : Prop := cursorsNamesUptoRow.holds Tryd.pinned (OpenSpec.upto cursorsNamesSpec)

/-- 'vellumlaw20.CursorsWalk', WHERE WHAT IT READS IS OF BULK AT MOST 1048576: true; the input reads as it did. -/
def cursorsWalkUptoRow : OpenClaim := { program := "ytfoppbignompkaadoor", sum := "dd8fdf5de356477b58957970c338d6b726fa9d17741bddb92d06c8c4bc0d2383", func := "vellum/vellumlaw20.CursorsWalk", spec := "cursorsWalk", unfollowed := true, recurses := true, named := ["unicode/utf8.first", "unicode/utf8.acceptRanges"], apart := false, laid := [("unicode/utf8.acceptRanges", laid_unicode_utf8_acceptRanges), ("unicode/utf8.first", laid_unicode_utf8_first)], narrowed := true }
def CursorsWalkUptoSaid : Prop := cursorsWalkUptoRow.holds Tryd.pinned (OpenSpec.upto cursorsWalkSpec)

/-- 'vellumlaw20.CursorsFollow', WHERE WHAT IT READS IS OF BULK AT MOST 1048576: true; the input reads as it did. -/
def cursorsFollowUptoRow : OpenClaim := { program := "ytfoppbignompkaadoor", sum := "dd8fdf5de356477b58957970c338d6b726fa9d17741bddb92d06c8c4bc0d2383", func := "vellum/vellumlaw20.CursorsFollow", spec := "cursorsFollow", unfollowed := true, recurses := true, named := ["unicode/utf8.first", "unicode/utf8.acceptRanges"], apart := false, laid := [("unicode/utf8.acceptRanges", laid_unicode_utf8_acceptRanges), ("unicode/utf8.first", laid_unicode_utf8_first)], narrowed := true }
def CursorsFollowUptoSaid : Prop := cursorsFollowUptoRow.holds Tryd.pinned (OpenSpec.upto cursorsFollowSpec)

/-- 'vellumlaw20.CursorsLines', WHERE WHAT IT READS IS OF BULK AT MOST 1048576: true; the input reads as it did. -/
def cursorsLinesUptoRow : OpenClaim := { program := "ytfoppbignompkaadoor", sum := "dd8fdf5de356477b58957970c338d6b726fa9d17741bddb92d06c8c4bc0d2383", func := "vellum/vellumlaw20.CursorsLines", spec := "cursorsLines", unfollowed := true, recurses := true, named := ["unicode/utf8.first", "unicode/utf8.acceptRanges"], apart := false, laid := [("unicode/utf8.acceptRanges", laid_unicode_utf8_acceptRanges), ("unicode/utf8.first", laid_unicode_utf8_first)], narrowed := true }
def CursorsLinesUptoSaid : Prop := cursorsLinesUptoRow.holds Tryd.pinned (OpenSpec.upto cursorsLinesSpec)

/-- 'vellumlaw20.CursorsPacks', WHERE WHAT IT READS IS OF BULK AT MOST 1048576: true; the input reads as it did. -/
def cursorsPacksUptoRow : OpenClaim := { program := "ytfoppbignompkaadoor", sum := "dd8fdf5de356477b58957970c338d6b726fa9d17741bddb92d06c8c4bc0d2383", func := "vellum/vellumlaw20.CursorsPacks", spec := "cursorsPacks", unfollowed := true, recurses := true, named := ["unicode/utf8.first", "unicode/utf8.acceptRanges"], apart := false, laid := [("unicode/utf8.acceptRanges", laid_unicode_utf8_acceptRanges), ("unicode/utf8.first", laid_unicode_utf8_first)], narrowed := true }
def CursorsPacksUptoSaid : Prop := cursorsPacksUptoRow.holds Tryd.pinned (OpenSpec.upto cursorsPacksSpec)

/-- 'vellumlaw20.CursorsBack', WHERE WHAT IT READS IS OF BULK AT MOST 1048576: true; the input reads as it did. -/
def cursorsBackUptoRow : OpenClaim := { program := "ytfoppbignompkaadoor", sum := "dd8fdf5de356477b58957970c338d6b726fa9d17741bddb92d06c8c4bc0d2383", func := "vellum/vellumlaw20.CursorsBack", spec := "cursorsBack", unfollowed := true, recurses := true, named := ["unicode/utf8.first", "unicode/utf8.acceptRanges"], apart := false, laid := [("unicode/utf8.acceptRanges", laid_unicode_utf8_acceptRanges), ("unicode/utf8.first", laid_unicode_utf8_first)], narrowed := true }
def CursorsBackUptoSaid : Prop := cursorsBackUptoRow.holds Tryd.pinned (OpenSpec.upto cursorsBackSpec)

/-- 'vellumlaw20.CursorsLists', WHERE WHAT IT READS IS OF BULK AT MOST 1048576: true; the input reads as it did. -/
def cursorsListsUptoRow : OpenClaim := { program := "ytfoppbignompkaadoor", sum := "dd8fdf5de356477b58957970c338d6b726fa9d17741bddb92d06c8c4bc0d2383", func := "vellum/vellumlaw20.CursorsLists", spec := "cursorsLists", inPlace := ["slices.overlaps[vellum/api.Cursor]"], unfollowed := true, recurses := true, named := ["unicode/utf8.first", "unicode/utf8.acceptRanges"], apart := false, laid := [("unicode/utf8.acceptRanges", laid_unicode_utf8_acceptRanges), ("unicode/utf8.first", laid_unicode_utf8_first)], narrowed := true }
def CursorsListsUptoSaid : Prop := cursorsListsUptoRow.holds Tryd.pinned (OpenSpec.upto cursorsListsSpec)

end Rows
end Go.Proofs.YtfoppbignompkaaDoor
