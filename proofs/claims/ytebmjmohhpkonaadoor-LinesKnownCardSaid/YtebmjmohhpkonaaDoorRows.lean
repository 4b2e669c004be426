/-
  NARROWER THAN 'FOR EVERY INPUT', by the rows' own cells (each row's printed sentence says how): LinesEnds: laid · LinesWheres: laid · LinesPlaces: laid · LinesBack: laid · LinesAll: laid · LinesWhole: laid · LinesSeam: laid · LinesKnown: laid.
  DERIVED. THE GIVEN ROWS OF THIS SEAT. 8 by the template 'for every input the law returns true; each argument reads behind the call as it read before'; 0 by the template 'total and deterministic' (their statements: YtebmjmohhpkonaaDoorTotals.lean).
  GIVEN WITH THE SEED: the statements are not yours to turn. If you find one false, say at which input.
  Laid BY PROGRAM, IN A SANDBOX (cutbox-rows.mjs): the forced cells as the released guide's own fill.sh prints them over the translation acb42731e4f7c737… (all of the seat's roots in one cut). By AI agents, Wed Nov 11 2026. No macro, syntax, notation, axiom, sorry.
-/
import Derived.Test.YtebmjmohhpkonaaDoorChecked
import GoSem.PinnedTables
import GoSem.Claim
import GoSem.ClaimJoined
import GoSem.ClaimMapViews
import Derived.JoinedTies
import Derived.KernelRfl
namespace Go.Proofs.YtebmjmohhpkonaaDoor
/- THE CELL 'sum', in the pinned program and in every row, IS THE sha256 OF THE DUMP (.gsa) THAT YtebmjmohhpkonaaDoorProg.lean LOADS. Nothing in Lean hashes anything: it is a label: what it is worth is what the hold of that sum in a sandbox is worth. -/
noncomputable def Tryd.pinned : Pinned := { name := "ytebmjmohhpkonaadoor", sum := "acb42731e4f7c7378f300cefe8d6cc2aaa02586da707795bdf755738d345603b", checked := Tryd.checked }
namespace Rows
def none {H : Type} : Left H := { results := [], args := [] }

/- WHAT THE LISTED PACKAGE-LEVEL VARIABLES READ AS WHEN THE CALL BEGINS. Each datum BY PROGRAM (the guide's laid-datum.mjs) off the statement by which the dump's own 'gosem.cut.vars' lays the variable. In a bare row this is a premise. The card (YtebmjmohhpkonaaDoorCards.lean) ties it to the program's text. -/
def laid_unicode_utf8_acceptRanges {H : Type} : DataW H := .agg [.agg [.lit (.int .u8 128), .lit (.int .u8 191)], .agg [.lit (.int .u8 160), .lit (.int .u8 191)], .agg [.lit (.int .u8 128), .lit (.int .u8 159)], .agg [.lit (.int .u8 144), .lit (.int .u8 191)], .agg [.lit (.int .u8 128), .lit (.int .u8 143)], .agg [.lit (.int .u8 0), .lit (.int .u8 0)], .agg [.lit (.int .u8 0), .lit (.int .u8 0)], .agg [.lit (.int .u8 0), .lit (.int .u8 0)], .agg [.lit (.int .u8 0), .lit (.int .u8 0)], .agg [.lit (.int .u8 0), .lit (.int .u8 0)], .agg [.lit (.int .u8 0), .lit (.int .u8 0)], .agg [.lit (.int .u8 0), .lit (.int .u8 0)], .agg [.lit (.int .u8 0), .lit (.int .u8 0)], .agg [.lit (.int .u8 0), .lit (.int .u8 0)], .agg [.lit (.int .u8 0), .lit (.int .u8 0)], .agg [.lit (.int .u8 0), .lit (.int .u8 0)]]
/-- One of Go's own tables, pinned by name: the form's constant. -/
def laid_unicode_utf8_first : DataW Unit := Go.Pinned.utf8First

/-- 'vellumlaw04.LinesEnds': WHATEVER THE INPUT: true; the input reads as it did. -/
def linesEndsSpec : ChangeSpec := { name := "linesEnds", fn := fun _ => fun
  | [d1, d2] => { results := [.lit (.bool true)], args := [d1, d2] }
  | _ => none }
def linesEndsRow : OpenClaim := { program := "ytebmjmohhpkonaadoor", sum := "acb42731e4f7c7378f300cefe8d6cc2aaa02586da707795bdf755738d345603b", func := "vellum/vellumlaw04.LinesEnds", spec := "linesEnds", unfollowed := true, recurses := true, named := ["unicode/utf8.first", "unicode/utf8.acceptRanges"], apart := false, laid := [("unicode/utf8.acceptRanges", laid_unicode_utf8_acceptRanges), ("unicode/utf8.first", laid_unicode_utf8_first)] }
def LinesEndsSaid : Prop := linesEndsRow.holds Tryd.pinned (OpenSpec.ofChange linesEndsSpec)

/-- ITS FALSE NEIGHBOUR: 'it returns false'. Refute it at one input. -/
def linesEndsWrong : ChangeSpec := { name := "linesEnds", fn := fun _ => fun
  | [d1, d2] => { results := [.lit (.bool false)], args := [d1, d2] }
  | _ => none }
def LinesEndsWrongFalsely : Prop := linesEndsRow.holds Tryd.pinned (OpenSpec.ofChange linesEndsWrong)

/-- 'vellumlaw04.LinesWheres': WHATEVER THE INPUT: true; the input reads as it did. -/
def linesWheresSpec : ChangeSpec := { name := "linesWheres", fn := fun _ => fun
  | [d1, d2] => { results := [.lit (.bool true)], args := [d1, d2] }
  | _ => none }
def linesWheresRow : OpenClaim := { program := "ytebmjmohhpkonaadoor", sum := "acb42731e4f7c7378f300cefe8d6cc2aaa02586da707795bdf755738d345603b", func := "vellum/vellumlaw04.LinesWheres", spec := "linesWheres", unfollowed := true, recurses := true, named := ["unicode/utf8.first", "unicode/utf8.acceptRanges"], apart := false, laid := [("unicode/utf8.acceptRanges", laid_unicode_utf8_acceptRanges), ("unicode/utf8.first", laid_unicode_utf8_first)] }
def LinesWheresSaid : Prop := linesWheresRow.holds Tryd.pinned (OpenSpec.ofChange linesWheresSpec)

/-- ITS FALSE NEIGHBOUR: 'it returns false'. Refute it at one input. -/
def linesWheresWrong : ChangeSpec := { name := "linesWheres", fn := fun _ => fun
  | [d1, d2] => { results := [.lit (.bool false)], args := [d1, d2] }
  | _ => none }
def LinesWheresWrongFalsely : Prop := linesWheresRow.holds Tryd.pinned (OpenSpec.ofChange linesWheresWrong)

/-- 'vellumlaw04.LinesPlaces': WHATEVER THE INPUT: true; the input reads as it did. -/
def linesPlacesSpec : ChangeSpec := { name := "linesPlaces", fn := fun _ => fun
  | [d1, d2] => { results := [.lit (.bool true)], args := [d1, d2] }
  | _ => none }
def linesPlacesRow : OpenClaim := { program := "ytebmjmohhpkonaadoor", sum := "acb42731e4f7c7378f300cefe8d6cc2aaa02586da707795bdf755738d345603b", func := "vellum/vellumlaw04.LinesPlaces", spec := "linesPlaces", unfollowed := true, recurses := true, named := ["unicode/utf8.first", "unicode/utf8.acceptRanges"], apart := false, laid := [("unicode/utf8.acceptRanges", laid_unicode_utf8_acceptRanges), ("unicode/utf8.first", laid_unicode_utf8_first)] }
def LinesPlacesSaid : Prop := linesPlacesRow.holds Tryd.pinned (OpenSpec.ofChange linesPlacesSpec)

/-- ITS FALSE NEIGHBOUR: 'it returns false'. Refute it at one input. -/
def linesPlacesWrong : ChangeSpec := { name := "linesPlaces", fn := fun _ => fun
  | [d1, d2] => { results := [.lit (.bool false)], args := [d1, d2] }
  | _ => none }
def LinesPlacesWrongFalsely : Prop := linesPlacesRow.holds Tryd.pinned (OpenSpec.ofChange linesPlacesWrong)

/-- 'vellumlaw04.LinesBack': WHATEVER THE INPUT: true; the input reads as it did. -/
def linesBackSpec : ChangeSpec := { name := "linesBack", fn := fun _ => fun
  | [d] => { results := [.lit (.bool true)], args := [d] }
  | _ => none }
def linesBackRow : OpenClaim := { program := "ytebmjmohhpkonaadoor", sum := "acb42731e4f7c7378f300cefe8d6cc2aaa02586da707795bdf755738d345603b", func := "vellum/vellumlaw04.LinesBack", spec := "linesBack", unfollowed := true, recurses := true, named := ["unicode/utf8.first", "unicode/utf8.acceptRanges"], apart := false, laid := [("unicode/utf8.acceptRanges", laid_unicode_utf8_acceptRanges), ("unicode/utf8.first", laid_unicode_utf8_first)] }
def LinesBackSaid : Prop := linesBackRow.holds Tryd.pinned (OpenSpec.ofChange linesBackSpec)

/-- ITS FALSE NEIGHBOUR: 'it returns false'. Refute it at one input. -/
def linesBackWrong : ChangeSpec := { name := "linesBack", fn := fun _ => fun
  | [d] => { results := [.lit (.bool false)], args := [d] }
  | _ => none }
def LinesBackWrongFalsely : Prop := linesBackRow.holds Tryd.pinned (OpenSpec.ofChange linesBackWrong)

/-- 'vellumlaw04.LinesAll': WHATEVER THE INPUT: true; the input reads as it did. -/
def linesAllSpec : ChangeSpec := { name := "linesAll", fn := fun _ => fun
  | [d1, d2] => { results := [.lit (.bool true)], args := [d1, d2] }
  | _ => none }
def linesAllRow : OpenClaim := { program := "ytebmjmohhpkonaadoor", sum := "acb42731e4f7c7378f300cefe8d6cc2aaa02586da707795bdf755738d345603b", func := "vellum/vellumlaw04.LinesAll", spec := "linesAll", unfollowed := true, recurses := true, named := ["unicode/utf8.first", "unicode/utf8.acceptRanges"], apart := false, laid := [("unicode/utf8.acceptRanges", laid_unicode_utf8_acceptRanges), ("unicode/utf8.first", laid_unicode_utf8_first)] }
def LinesAllSaid : Prop := linesAllRow.holds Tryd.pinned (OpenSpec.ofChange linesAllSpec)

/-- ITS FALSE NEIGHBOUR: 'it returns false'. Refute it at one input. -/
def linesAllWrong : ChangeSpec := { name := "linesAll", fn := fun _ => fun
  | [d1, d2] => { results := [.lit (.bool false)], args := [d1, d2] }
  | _ => none }
def LinesAllWrongFalsely : Prop := linesAllRow.holds Tryd.pinned (OpenSpec.ofChange linesAllWrong)

/-- 'vellumlaw04.LinesWhole': WHATEVER THE INPUT: true; the input reads as it did. -/
def linesWholeSpec : ChangeSpec := { name := "linesWhole", fn := fun _ => fun
  | [d] => { results := [.lit (.bool true)], args := [d] }
  | _ => none }
def linesWholeRow : OpenClaim := { program := "ytebmjmohhpkonaadoor", sum := "acb42731e4f7c7378f300cefe8d6cc2aaa02586da707795bdf755738d345603b", func := "vellum/vellumlaw04.LinesWhole", spec := "linesWhole", unfollowed := true, recurses := true, named := ["unicode/utf8.first", "unicode/utf8.acceptRanges"], apart := false, laid := [("unicode/utf8.acceptRanges", laid_unicode_utf8_acceptRanges), ("unicode/utf8.first", laid_unicode_utf8_first)] }
def LinesWholeSaid : Prop := linesWholeRow.holds Tryd.pinned (OpenSpec.ofChange linesWholeSpec)

/-- ITS FALSE NEIGHBOUR: 'it returns false'. Refute it at one input. -/
def linesWholeWrong : ChangeSpec := { name := "linesWhole", fn := fun _ => fun
  | [d] => { results := [.lit (.bool false)], args := [d] }
  | _ => none }
def LinesWholeWrongFalsely : Prop := linesWholeRow.holds Tryd.pinned (OpenSpec.ofChange linesWholeWrong)

/-- 'vellumlaw04.LinesSeam': WHATEVER THE INPUT: true; the input reads as it did. -/
def linesSeamSpec : ChangeSpec := { name := "linesSeam", fn := fun _ => fun
  | [d1, d2] => { results := [.lit (.bool true)], args := [d1, d2] }
  | _ => none }
def linesSeamRow : OpenClaim := { program := "ytebmjmohhpkonaadoor", sum := "acb42731e4f7c7378f300cefe8d6cc2aaa02586da707795bdf755738d345603b", func := "vellum/vellumlaw04.LinesSeam", spec := "linesSeam", unfollowed := true, recurses := true, named := ["unicode/utf8.first", "unicode/utf8.acceptRanges"], apart := false, laid := [("unicode/utf8.acceptRanges", laid_unicode_utf8_acceptRanges), ("unicode/utf8.first", laid_unicode_utf8_first)] }
def LinesSeamSaid : Prop := linesSeamRow.holds Tryd.pinned (OpenSpec.ofChange linesSeamSpec)

/-- ITS FALSE NEIGHBOUR: 'it returns false'. Refute it at one input. -/
def linesSeamWrong : ChangeSpec := { name := "linesSeam", fn := fun _ => fun
  | [d1, d2] => { results := [.lit (.bool false)], args := [d1, d2] }
  | _ => none }
def LinesSeamWrongFalsely : Prop := linesSeamRow.holds Tryd.pinned (OpenSpec.ofChange linesSeamWrong)

/-- 'vellumlaw04.LinesKnown': WHATEVER THE INPUT: true; the input reads as it did. -/
def linesKnownSpec : ChangeSpec := { name := "linesKnown", fn := fun _ => fun
  | [] => { results := [.lit (.bool true)], args := [] }
  | _ => none }
def linesKnownRow : OpenClaim := { program := "ytebmjmohhpkonaadoor", sum := "acb42731e4f7c7378f300cefe8d6cc2aaa02586da707795bdf755738d345603b", func := "vellum/vellumlaw04.LinesKnown", spec := "linesKnown", unfollowed := true, recurses := true, named := ["unicode/utf8.first", "unicode/utf8.acceptRanges"], apart := false, laid := [("unicode/utf8.acceptRanges", laid_unicode_utf8_acceptRanges), ("unicode/utf8.first", laid_unicode_utf8_first)] }
def LinesKnownSaid : Prop := linesKnownRow.holds Tryd.pinned (OpenSpec.ofChange linesKnownSpec)

/-- ITS FALSE NEIGHBOUR: 'it returns false'. Refute it at one input. -/
def linesKnownWrong : ChangeSpec := { name := "linesKnown", fn := fun _ => fun
  | [] => { results := [.lit (.bool false)], args := [] }
  | _ => none }
def LinesKnownWrongFalsely : Prop := linesKnownRow.holds Tryd.pinned (OpenSpec.ofChange linesKnownWrong)

/- THE SECOND FORM. 'bulk': how many values and letters a reading holds, each counted each time it is reached (what is shared counts as often as it is met; a slice's spare places count too). A statement '..UptoSaid' is the law's where the arguments, and the package variables that the reading takes, are together of bulk at most 1048576: NARROWER than '..Said'. Prove '..Said' where nothing that the law and all that it calls make is longer than what came in: it says more and counts as full. Else prove '..UptoSaid'. A law counts once. -/
mutual
def uptoBulk {H : Type} : DataW H → Nat
  | .lit (.string bytes) => bytes.length + 1
  | .lit _ => 1
  | .nil => 1
  | .ptr d => uptoBulk d + 1
  | .slice elems spare => uptoBulkAll elems + uptoBulkAll spare + 1
  | .agg parts => uptoBulkAll parts + 1
  | .iface _ d => uptoBulk d + 1
  | .map entries => uptoBulkEntries entries + 1
  | .held _ => 1
def uptoBulkAll {H : Type} : List (DataW H) → Nat
  | [] => 0
  | d :: r => uptoBulk d + uptoBulkAll r
def uptoBulkEntries {H : Type} : List (Lit × DataW H) → Nat
  | [] => 0
  | x :: r => uptoBulkEntry x + uptoBulkEntries r
def uptoBulkEntry {H : Type} : Lit × DataW H → Nat
  | (.string bytes, d) => bytes.length + uptoBulk d + 1
  | (_, d) => uptoBulk d + 1
 end
def uptoSmall : (H : Type) → List (DataW H) → Bool := fun _ ds => decide (uptoBulkAll ds ≤ 1048576)
def OpenSpec.upto (s : _root_.Go.ChangeSpec) : _root_.Go.OpenSpec := { _root_.Go.OpenSpec.ofChange s with cond := some uptoSmall }

/-- 'vellumlaw04.LinesEnds', WHERE WHAT IT READS IS OF BULK AT MOST 1048576: true; the input reads as it did. -/
def linesEndsUptoRow : OpenClaim := { program := "ytebmjmohhpkonaadoor", sum := "acb42731e4f7c7378f300cefe8d6cc2aaa02586da707795bdf755738d345603b", func := "vellum/vellumlaw04.LinesEnds", spec := "linesEnds", unfollowed := true, recurses := true, named := ["unicode/utf8.first", "unicode/utf8.acceptRanges"], apart := false, laid := [("unicode/utf8.acceptRanges", laid_unicode_utf8_acceptRanges), ("unicode/utf8.first", laid_unicode_utf8_first)], narrowed := true }
def LinesEndsUptoSaid : Prop := linesEndsUptoRow.holds Tryd.pinned (OpenSpec.upto linesEndsSpec)

/-- 'vellumlaw04.LinesWheres', WHERE WHAT IT READS IS OF BULK AT MOST 1048576: true; the input reads as it did. -/
def linesWheresUptoRow : OpenClaim := { program := "ytebmjmohhpkonaadoor", sum := "acb42731e4f7c7378f300cefe8d6cc2aaa02586da707795bdf755738d345603b", func := "vellum/vellumlaw04.LinesWheres", spec := "linesWheres", unfollowed := true, recurses := true, named := ["unicode/utf8.first", "unicode/utf8.acceptRanges"], apart := false, laid := [("unicode/utf8.acceptRanges", laid_unicode_utf8_acceptRanges), ("unicode/utf8.first", laid_unicode_utf8_first)], narrowed := true }
def LinesWheresUptoSaid : Prop := linesWheresUptoRow.holds Tryd.pinned (OpenSpec.upto linesWheresSpec)

/-- 'vellumlaw04.LinesPlaces', WHERE WHAT IT READS IS OF BULK AT MOST 1048576: true; the input reads as it did. -/
def linesPlacesUptoRow : OpenClaim := { program := "ytebmjmohhpkonaadoor", sum := "acb42731e4f7c7378f300cefe8d6cc2aaa02586da707795bdf755738d345603b", func := "vellum/vellumlaw04.LinesPlaces", spec := "linesPlaces", unfollowed := true, recurses := true, named := ["unicode/utf8.first", "unicode/utf8.acceptRanges"], apart := false, laid := [("unicode/utf8.acceptRanges", laid_unicode_utf8_acceptRanges), ("unicode/utf8.first", laid_unicode_utf8_first)], narrowed := true }
def LinesPlacesUptoSaid : Prop := linesPlacesUptoRow.holds Tryd.pinned (OpenSpec.upto linesPlacesSpec)

/-- 'vellumlaw04.LinesBack', WHERE WHAT IT READS IS OF BULK AT MOST 1048576: true; the input reads as it did. -/
def linesBackUptoRow : OpenClaim := { program := "ytebmjmohhpkonaadoor", sum := "acb42731e4f7c7378f300cefe8d6cc2aaa02586da707795bdf755738d345603b", func := "vellum/vellumlaw04.LinesBack", spec := "linesBack", unfollowed := true, recurses := true, named := ["unicode/utf8.first", "unicode/utf8.acceptRanges"], apart := false, laid := [("unicode/utf8.acceptRanges", laid_unicode_utf8_acceptRanges), ("unicode/utf8.first", laid_unicode_utf8_first)], narrowed := true }
def LinesBackUptoSaid : Prop := linesBackUptoRow.holds Tryd.pinned (OpenSpec.upto linesBackSpec)

/-- 'vellumlaw04.LinesAll', WHERE WHAT IT READS IS OF BULK AT MOST 1048576: true; the input reads as it did. -/
def linesAllUptoRow : OpenClaim := { program := "ytebmjmohhpkonaadoor", sum := "acb42731e4f7c7378f300cefe8d6cc2aaa02586da707795bdf755738d345603b", func := "vellum/vellumlaw04.LinesAll", spec := "linesAll", unfollowed := true, recurses := true, named := ["unicode/utf8.first", "unicode/utf8.acceptRanges"], apart := false, laid := [("unicode/utf8.acceptRanges", laid_unicode_utf8_acceptRanges), ("unicode/utf8.first", laid_unicode_utf8_first)], narrowed := true }
def LinesAllUptoSaid : Prop := linesAllUptoRow.holds Tryd.pinned (OpenSpec.upto linesAllSpec)

/-- 'vellumlaw04.LinesWhole', WHERE WHAT IT READS IS OF BULK AT MOST 1048576: true; the input reads as it did. -/
def linesWholeUptoRow : OpenClaim := { program := "ytebmjmohhpkonaadoor", sum := "acb42731e4f7c7378f300cefe8d6cc2aaa02586da707795bdf755738d345603b", func := "vellum/vellumlaw04.LinesWhole", spec := "linesWhole", unfollowed := true, recurses := true, named := ["unicode/utf8.first", "unicode/utf8.acceptRanges"], apart := false, laid := [("unicode/utf8.acceptRanges", laid_unicode_utf8_acceptRanges), ("unicode/utf8.first", laid_unicode_utf8_first)], narrowed := true }
def LinesWholeUptoSaid : Prop := linesWholeUptoRow.holds Tryd.pinned (OpenSpec.upto linesWholeSpec)

/-- 'vellumlaw04.LinesSeam', WHERE WHAT IT READS IS OF BULK AT MOST 1048576: true; the input reads as it did. -/
def linesSeamUptoRow : OpenClaim := { program := "ytebmjmohhpkonaadoor", sum := "acb42731e4f7c7378f300cefe8d6cc2aaa02586da707795bdf755738d345603b", func := "vellum/vellumlaw04.LinesSeam", spec := "linesSeam", unfollowed := true, recurses := true, named := ["unicode/utf8.first", "unicode/utf8.acceptRanges"], apart := false, laid := [("unicode/utf8.acceptRanges", laid_unicode_utf8_acceptRanges), ("unicode/utf8.first", laid_unicode_utf8_first)], narrowed := true }
def LinesSeamUptoSaid : Prop := linesSeamUptoRow.holds Tryd.pinned (OpenSpec.upto linesSeamSpec)

/-- 'vellumlaw04.LinesKnown', WHERE WHAT IT READS IS OF BULK AT MOST 1048576: true; the input reads as it did. -/
def linesKnownUptoRow : OpenClaim := { program := "ytebmjmohhpkonaadoor", sum := "acb42731e4f7c7378f300cefe8d6cc2aaa02586da707795bdf755738d345603b", func := "vellum/vellumlaw04.LinesKnown", spec := "linesKnown", unfollowed := true, recurses := true, named := ["unicode/utf8.first", "unicode/utf8.acceptRanges"], apart := false, laid := [("unicode/utf8.acceptRanges", laid_unicode_utf8_acceptRanges), ("unicode/utf8.first", laid_unicode_utf8_first)], narrowed := true }
def LinesKnownUptoSaid : Prop := linesKnownUptoRow.holds Tryd.pinned (OpenSpec.upto linesKnownSpec)

end Rows
end Go.Proofs.YtebmjmohhpkonaaDoor
