/-
  NARROWER THAN 'FOR EVERY INPUT', by the rows' own cells (each row's printed sentence says how): TallyTells: laid · TallyChecks: laid · TallyJoins: laid · TallyThree: laid · TallyNames: laid · TallySums: laid · TallyParts: laid · TallyWhole: laid.
  DERIVED. THE GIVEN ROWS OF THIS SEAT. 8 by the template 'for every input the law returns true; each argument reads behind the call as it read before'; 0 by the template 'total and deterministic' (their statements: YtpihmbdfhhjleaaDoorTotals.lean).
  GIVEN WITH THE SEED: the statements are not yours to turn. If you find one false, say at which input.
  Laid BY PROGRAM, IN A SANDBOX (cutbox-rows.mjs): the forced cells as the released guide's own fill.sh prints them over the translation c466d0bc2ffcd723… (all of the seat's roots in one cut). By AI agents, Wed Nov 11 2026. No macro, syntax, notation, axiom, sorry.
-/
import Derived.Test.YtpihmbdfhhjleaaDoorChecked
import GoSem.PinnedTables
import GoSem.Claim
import GoSem.ClaimJoined
import GoSem.ClaimMapViews
import Derived.JoinedTies
import Derived.KernelRfl
namespace Go.Proofs.YtpihmbdfhhjleaaDoor
/- THE CELL 'sum', in the pinned program and in every row, IS THE sha256 OF THE DUMP (.gsa) THAT YtpihmbdfhhjleaaDoorProg.lean LOADS. Nothing in Lean hashes anything: it is a label: what it is worth is what the hold of that sum in a sandbox is worth. -/
noncomputable def Tryd.pinned : Pinned := { name := "ytpihmbdfhhjleaadoor", sum := "c466d0bc2ffcd723091357cbf02e66f79f4f399f577ce0f4ce7de562b20b6c77", checked := Tryd.checked }
namespace Rows
def none {H : Type} : Left H := { results := [], args := [] }

/- WHAT THE LISTED PACKAGE-LEVEL VARIABLES READ AS WHEN THE CALL BEGINS. Each datum BY PROGRAM (the guide's laid-datum.mjs) off the statement by which the dump's own 'gosem.cut.vars' lays the variable. In a bare row this is a premise. The card (YtpihmbdfhhjleaaDoorCards.lean) ties it to the program's text. -/
def laid_unicode_utf8_acceptRanges {H : Type} : DataW H := .agg [.agg [.lit (.int .u8 128), .lit (.int .u8 191)], .agg [.lit (.int .u8 160), .lit (.int .u8 191)], .agg [.lit (.int .u8 128), .lit (.int .u8 159)], .agg [.lit (.int .u8 144), .lit (.int .u8 191)], .agg [.lit (.int .u8 128), .lit (.int .u8 143)], .agg [.lit (.int .u8 0), .lit (.int .u8 0)], .agg [.lit (.int .u8 0), .lit (.int .u8 0)], .agg [.lit (.int .u8 0), .lit (.int .u8 0)], .agg [.lit (.int .u8 0), .lit (.int .u8 0)], .agg [.lit (.int .u8 0), .lit (.int .u8 0)], .agg [.lit (.int .u8 0), .lit (.int .u8 0)], .agg [.lit (.int .u8 0), .lit (.int .u8 0)], .agg [.lit (.int .u8 0), .lit (.int .u8 0)], .agg [.lit (.int .u8 0), .lit (.int .u8 0)], .agg [.lit (.int .u8 0), .lit (.int .u8 0)], .agg [.lit (.int .u8 0), .lit (.int .u8 0)]]
/-- One of Go's own tables, pinned by name: the form's constant. -/
def laid_unicode_utf8_first : DataW Unit := Go.Pinned.utf8First

/-- 'vellumlaw03.TallyTells': WHATEVER THE INPUT: true; the input reads as it did. -/
def tallyTellsSpec : ChangeSpec := { name := "tallyTells", fn := fun _ => fun
  | [d] => { results := [.lit (.bool true)], args := [d] }
  | _ => none }
def tallyTellsRow : OpenClaim := { program := "ytpihmbdfhhjleaadoor", sum := "c466d0bc2ffcd723091357cbf02e66f79f4f399f577ce0f4ce7de562b20b6c77", func := "vellum/vellumlaw03.TallyTells", spec := "tallyTells", named := ["unicode/utf8.first", "unicode/utf8.acceptRanges"], apart := false, laid := [("unicode/utf8.acceptRanges", laid_unicode_utf8_acceptRanges), ("unicode/utf8.first", laid_unicode_utf8_first)] }
def TallyTellsSaid : Prop := tallyTellsRow.holds Tryd.pinned (OpenSpec.ofChange tallyTellsSpec)

/-- ITS FALSE NEIGHBOUR: 'it returns false'. Refute it at one input. -/
def tallyTellsWrong : ChangeSpec := { name := "tallyTells", fn := fun _ => fun
  | [d] => { results := [.lit (.bool false)], args := [d] }
  | _ => none }
def TallyTellsWrongFalsely : Prop := tallyTellsRow.holds Tryd.pinned (OpenSpec.ofChange tallyTellsWrong)

/-- 'vellumlaw03.TallyChecks': WHATEVER THE INPUT: true; the input reads as it did. -/
def tallyChecksSpec : ChangeSpec := { name := "tallyChecks", fn := fun _ => fun
  | [d] => { results := [.lit (.bool true)], args := [d] }
  | _ => none }
def tallyChecksRow : OpenClaim := { program := "ytpihmbdfhhjleaadoor", sum := "c466d0bc2ffcd723091357cbf02e66f79f4f399f577ce0f4ce7de562b20b6c77", func := "vellum/vellumlaw03.TallyChecks", spec := "tallyChecks", named := ["unicode/utf8.first", "unicode/utf8.acceptRanges"], apart := false, laid := [("unicode/utf8.acceptRanges", laid_unicode_utf8_acceptRanges), ("unicode/utf8.first", laid_unicode_utf8_first)] }
def TallyChecksSaid : Prop := tallyChecksRow.holds Tryd.pinned (OpenSpec.ofChange tallyChecksSpec)

/-- ITS FALSE NEIGHBOUR: 'it returns false'. Refute it at one input. -/
def tallyChecksWrong : ChangeSpec := { name := "tallyChecks", fn := fun _ => fun
  | [d] => { results := [.lit (.bool false)], args := [d] }
  | _ => none }
def TallyChecksWrongFalsely : Prop := tallyChecksRow.holds Tryd.pinned (OpenSpec.ofChange tallyChecksWrong)

/-- 'vellumlaw03.TallyJoins': WHATEVER THE INPUT: true; the input reads as it did. -/
def tallyJoinsSpec : ChangeSpec := { name := "tallyJoins", fn := fun _ => fun
  | [d1, d2] => { results := [.lit (.bool true)], args := [d1, d2] }
  | _ => none }
def tallyJoinsRow : OpenClaim := { program := "ytpihmbdfhhjleaadoor", sum := "c466d0bc2ffcd723091357cbf02e66f79f4f399f577ce0f4ce7de562b20b6c77", func := "vellum/vellumlaw03.TallyJoins", spec := "tallyJoins", recurses := true, named := ["unicode/utf8.first", "unicode/utf8.acceptRanges"], apart := false, laid := [("unicode/utf8.acceptRanges", laid_unicode_utf8_acceptRanges), ("unicode/utf8.first", laid_unicode_utf8_first)] }
def TallyJoinsSaid : Prop := tallyJoinsRow.holds Tryd.pinned (OpenSpec.ofChange tallyJoinsSpec)

/-- ITS FALSE NEIGHBOUR: 'it returns false'. Refute it at one input. -/
def tallyJoinsWrong : ChangeSpec := { name := "tallyJoins", fn := fun _ => fun
  | [d1, d2] => { results := [.lit (.bool false)], args := [d1, d2] }
  | _ => none }
def TallyJoinsWrongFalsely : Prop := tallyJoinsRow.holds Tryd.pinned (OpenSpec.ofChange tallyJoinsWrong)

/-- 'vellumlaw03.TallyThree': WHATEVER THE INPUT: true; the input reads as it did. -/
def tallyThreeSpec : ChangeSpec := { name := "tallyThree", fn := fun _ => fun
  | [d1, d2, d3] => { results := [.lit (.bool true)], args := [d1, d2, d3] }
  | _ => none }
def tallyThreeRow : OpenClaim := { program := "ytpihmbdfhhjleaadoor", sum := "c466d0bc2ffcd723091357cbf02e66f79f4f399f577ce0f4ce7de562b20b6c77", func := "vellum/vellumlaw03.TallyThree", spec := "tallyThree", named := ["unicode/utf8.first", "unicode/utf8.acceptRanges"], apart := false, laid := [("unicode/utf8.acceptRanges", laid_unicode_utf8_acceptRanges), ("unicode/utf8.first", laid_unicode_utf8_first)] }
def TallyThreeSaid : Prop := tallyThreeRow.holds Tryd.pinned (OpenSpec.ofChange tallyThreeSpec)

/-- ITS FALSE NEIGHBOUR: 'it returns false'. Refute it at one input. -/
def tallyThreeWrong : ChangeSpec := { name := "tallyThree", fn := fun _ => fun
  | [d1, d2, d3] => { results := [.lit (.bool false)], args := [d1, d2, d3] }
  | _ => none }
def TallyThreeWrongFalsely : Prop := tallyThreeRow.holds Tryd.pinned (OpenSpec.ofChange tallyThreeWrong)

/-- 'vellumlaw03.TallyNames': WHATEVER THE INPUT: true; the input reads as it did. -/
def tallyNamesSpec : ChangeSpec := { name := "tallyNames", fn := fun _ => fun
  | [] => { results := [.lit (.bool true)], args := [] }
  | _ => none }
def tallyNamesRow : OpenClaim := { program := "ytpihmbdfhhjleaadoor", sum := "c466d0bc2ffcd723091357cbf02e66f79f4f399f577ce0f4ce7de562b20b6c77", func := "vellum/vellumlaw03.TallyNames", spec := "tallyNames", recurses := true, named := ["unicode/utf8.first", "unicode/utf8.acceptRanges"], apart := false, laid := [("unicode/utf8.acceptRanges", laid_unicode_utf8_acceptRanges), ("unicode/utf8.first", laid_unicode_utf8_first)] }
def TallyNamesSaid : Prop := tallyNamesRow.holds Tryd.pinned (OpenSpec.ofChange tallyNamesSpec)

/-- ITS FALSE NEIGHBOUR: 'it returns false'. Refute it at one input. -/
def tallyNamesWrong : ChangeSpec := { name := "tallyNames", fn := fun _ => fun
  | [] => { results := [.lit (.bool false)], args := [] }
  | _ => none }
def TallyNamesWrongFalsely : Prop := tallyNamesRow.holds Tryd.pinned (OpenSpec.ofChange tallyNamesWrong)

/-- 'vellumlaw03.TallySums': WHATEVER THE INPUT: true; the input reads as it did. -/
def tallySumsSpec : ChangeSpec := { name := "tallySums", fn := fun _ => fun
  | [d] => { results := [.lit (.bool true)], args := [d] }
  | _ => none }
def tallySumsRow : OpenClaim := { program := "ytpihmbdfhhjleaadoor", sum := "c466d0bc2ffcd723091357cbf02e66f79f4f399f577ce0f4ce7de562b20b6c77", func := "vellum/vellumlaw03.TallySums", spec := "tallySums", recurses := true, named := ["unicode/utf8.first", "unicode/utf8.acceptRanges"], apart := false, laid := [("unicode/utf8.acceptRanges", laid_unicode_utf8_acceptRanges), ("unicode/utf8.first", laid_unicode_utf8_first)] }
def TallySumsSaid : Prop := tallySumsRow.holds Tryd.pinned (OpenSpec.ofChange tallySumsSpec)

/-- ITS FALSE NEIGHBOUR: 'it returns false'. Refute it at one input. -/
def tallySumsWrong : ChangeSpec := { name := "tallySums", fn := fun _ => fun
  | [d] => { results := [.lit (.bool false)], args := [d] }
  | _ => none }
def TallySumsWrongFalsely : Prop := tallySumsRow.holds Tryd.pinned (OpenSpec.ofChange tallySumsWrong)

/-- 'vellumlaw03.TallyParts': WHATEVER THE INPUT: true; the input reads as it did. -/
def tallyPartsSpec : ChangeSpec := { name := "tallyParts", fn := fun _ => fun
  | [d1, d2] => { results := [.lit (.bool true)], args := [d1, d2] }
  | _ => none }
def tallyPartsRow : OpenClaim := { program := "ytpihmbdfhhjleaadoor", sum := "c466d0bc2ffcd723091357cbf02e66f79f4f399f577ce0f4ce7de562b20b6c77", func := "vellum/vellumlaw03.TallyParts", spec := "tallyParts", named := ["unicode/utf8.first", "unicode/utf8.acceptRanges"], apart := false, laid := [("unicode/utf8.acceptRanges", laid_unicode_utf8_acceptRanges), ("unicode/utf8.first", laid_unicode_utf8_first)] }
def TallyPartsSaid : Prop := tallyPartsRow.holds Tryd.pinned (OpenSpec.ofChange tallyPartsSpec)

/-- ITS FALSE NEIGHBOUR: 'it returns false'. Refute it at one input. -/
def tallyPartsWrong : ChangeSpec := { name := "tallyParts", fn := fun _ => fun
  | [d1, d2] => { results := [.lit (.bool false)], args := [d1, d2] }
  | _ => none }
def TallyPartsWrongFalsely : Prop := tallyPartsRow.holds Tryd.pinned (OpenSpec.ofChange tallyPartsWrong)

/-- 'vellumlaw03.TallyWhole': WHATEVER THE INPUT: true; the input reads as it did. -/
def tallyWholeSpec : ChangeSpec := { name := "tallyWhole", fn := fun _ => fun
  | [d1, d2] => { results := [.lit (.bool true)], args := [d1, d2] }
  | _ => none }
def tallyWholeRow : OpenClaim := { program := "ytpihmbdfhhjleaadoor", sum := "c466d0bc2ffcd723091357cbf02e66f79f4f399f577ce0f4ce7de562b20b6c77", func := "vellum/vellumlaw03.TallyWhole", spec := "tallyWhole", named := ["unicode/utf8.first", "unicode/utf8.acceptRanges"], apart := false, laid := [("unicode/utf8.acceptRanges", laid_unicode_utf8_acceptRanges), ("unicode/utf8.first", laid_unicode_utf8_first)] }
def TallyWholeSaid : Prop := tallyWholeRow.holds Tryd.pinned (OpenSpec.ofChange tallyWholeSpec)

/-- ITS FALSE NEIGHBOUR: 'it returns false'. Refute it at one input. -/
def tallyWholeWrong : ChangeSpec := { name := "tallyWhole", fn := fun _ => fun
  | [d1, d2] => { results := [.lit (.bool false)], args := [d1, d2] }
  | _ => none }
def TallyWholeWrongFalsely : Prop := tallyWholeRow.holds Tryd.pinned (OpenSpec.ofChange tallyWholeWrong)

/- THE SECOND FORM. 'bulk': how many values and letters a reading holds, each counted each time it is reached (what is shared counts as often as it is met; a slice's spare places count too). A statement '..UptoSaid' is the law's where the arguments, and the package variables that the reading takes, are together of bulk at most 1048576: NARROWER than '..Said'. Prove '..Said' where nothing that the law and all that it calls make is longer than what came in: it says more and counts as full. Else prove '..UptoSaid'. A law counts once. -/
mutual
def uptoBulk {H : Type} : DataW H → Nat
  | .lit (.string bytes) => bytes.length + 1
  | .lit _ => 1
  | .nil => 1
  | .ptr d => uptoBulk d + 1
  | .slice elems spare => uptoBulkAll elems + uptoBulkAll spare + 1
  | .agg parts => uptoBulkAll parts + 1
  | .iface _ d => uptoBulk d + 1
  | .map entries => uptoBulkEntries entries + 1
  | .held _ => 1
def uptoBulkAll {H : Type} : List (DataW H) → Nat
  | [] => 0
  | d :: r => uptoBulk d + uptoBulkAll r
def uptoBulkEntries {H : Type} : List (Lit × DataW H) → Nat
  | [] => 0
  | x :: r => uptoBulkEntry x + uptoBulkEntries r
def uptoBulkEntry {H : Type} : Lit × DataW H → Nat
  | (.string bytes, d) => bytes.length + uptoBulk d + 1
  | (_, d) => uptoBulk d + 1
 end
def uptoSmall : (H : Type) → List (DataW H) → Bool := fun _ ds => decide (uptoBulkAll ds ≤ 1048576)
def OpenSpec.upto (s : _root_.Go.ChangeSpec) : _root_.Go.OpenSpec := { _root_.Go.OpenSpec.ofChange s with cond := some uptoSmall }

/-- 'vellumlaw03.TallyTells', WHERE WHAT IT READS IS OF BULK AT MOST 1048576: true; the input reads as it did. -/
def tallyTellsUptoRow : OpenClaim := { program := "ytpihmbdfhhjleaadoor", sum := "c466d0bc2ffcd723091357cbf02e66f79f4f399f577ce0f4ce7de562b20b6c77", func := "vellum/vellumlaw03.TallyTells", spec := "tallyTells", named := ["unicode/utf8.first", "unicode/utf8.acceptRanges"], apart := false, laid := [("unicode/utf8.acceptRanges", laid_unicode_utf8_acceptRanges), ("unicode/utf8.first", laid_unicode_utf8_first)], narrowed := true }
def TallyTellsUptoSaid : Prop := tallyTellsUptoRow.holds Tryd.pinned (OpenSpec.upto tallyTellsSpec)

/-- 'vellumlaw03.TallyChecks', WHERE WHAT IT READS IS OF BULK AT MOST 1048576: true; the input reads as it did. -/
def tallyChecksUptoRow : OpenClaim := { program := "ytpihmbdfhhjleaadoor", sum := "c466d0bc2ffcd723091357cbf02e66f79f4f399f577ce0f4ce7de562b20b6c77", func := "vellum/vellumlaw03.TallyChecks", spec := "tallyChecks", named := ["unicode/utf8.first", "unicode/utf8.acceptRanges"], apart := false, laid := [("unicode/utf8.acceptRanges", laid_unicode_utf8_acceptRanges), ("unicode/utf8.first", laid_unicode_utf8_first)], narrowed := true }
def TallyChecksUptoSaid : Prop := tallyChecksUptoRow.holds Tryd.pinned (OpenSpec.upto tallyChecksSpec)

/-- 'vellumlaw03.TallyJoins', WHERE WHAT IT READS IS OF BULK AT MOST 1048576: true; the input reads as it did. -/
def tallyJoinsUptoRow : OpenClaim := { program := "ytpihmbdfhhjleaadoor", sum := "c466d0bc2ffcd723091357cbf02e66f79f4f399f577ce0f4ce7de562b20b6c77", func := "vellum/vellumlaw03.TallyJoins", spec := "tallyJoins", recurses := true, named := ["unicode/utf8.first", "unicode/utf8.acceptRanges"], apart := false, laid := [("unicode/utf8.acceptRanges", laid_unicode_utf8_acceptRanges), ("unicode/utf8.first", laid_unicode_utf8_first)], narrowed := true }
def TallyJoinsUptoSaid : Prop := tallyJoinsUptoRow.holds Tryd.pinned (OpenSpec.upto tallyJoinsSpec)

/-- 'vellumlaw03.TallyThree', WHERE WHAT IT READS IS OF BULK AT MOST 1048576: true; the input reads as it did. -/
def tallyThreeUptoRow : OpenClaim := { program := "ytpihmbdfhhjleaadoor", sum := "c466d0bc2ffcd723091357cbf02e66f79f4f399f577ce0f4ce7de562b20b6c77", func := "vellum/vellumlaw03.TallyThree", spec := "tallyThree", named := ["unicode/utf8.first", "unicode/utf8.acceptRanges"], apart := false, laid := [("unicode/utf8.acceptRanges", laid_unicode_utf8_acceptRanges), ("unicode/utf8.first", laid_unicode_utf8_first)], narrowed := true }
def TallyThreeUptoSaid : Prop := tallyThreeUptoRow.holds Tryd.pinned (OpenSpec.upto tallyThreeSpec)

/-- 'vellumlaw03.TallyNames', WHERE WHAT IT READS IS OF BULK AT MOST 1048576: true; the input reads as it did. -/
def tallyNamesUptoRow : OpenClaim := { program := "ytpihmbdfhhjleaadoor", sum := "c466d0bc2ffcd723091357cbf02e66f79f4f399f577ce0f4ce7de562b20b6c77", func := "vellum/vellumlaw03.TallyNames", spec := "tallyNames", recurses := true, named := ["unicode/utf8.first", "unicode/utf8.acceptRanges"], apart := false, laid := [("unicode/utf8.acceptRanges", laid_unicode_utf8_acceptRanges), ("unicode/utf8.first", laid_unicode_utf8_first)], narrowed := true }
def TallyNamesUptoSaid : Prop := tallyNamesUptoRow.holds Tryd.pinned (OpenSpec.upto tallyNamesSpec)

/-- 'vellumlaw03.TallySums', WHERE WHAT IT READS IS OF BULK AT MOST 1048576: true; the input reads as it did. -/
def tallySumsUptoRow : OpenClaim := { program := "ytpihmbdfhhjleaadoor", sum := "c466d0bc2ffcd723091357cbf02e66f79f4f399f577ce0f4ce7de562b20b6c77", func := "vellum/vellumlaw03.TallySums", spec := "tallySums", recurses := true, named := ["unicode/utf8.first", "unicode/utf8.acceptRanges"], apart := false, laid := [("unicode/utf8.acceptRanges", laid_unicode_utf8_acceptRanges), ("unicode/utf8.first", laid_unicode_utf8_first)], narrowed := true }
def TallySumsUptoSaid : Prop := tallySumsUptoRow.holds Tryd.pinned (OpenSpec.upto tallySumsSpec)

/-- 'vellumlaw03.TallyParts', WHERE WHAT IT READS IS OF BULK AT MOST 1048576: true; the input reads as it did. -/
def tallyPartsUptoRow : OpenClaim := { program := "ytpihmbdfhhjleaadoor", sum := "c466d0bc2ffcd723091357cbf02e66f79f4f399f577ce0f4ce7de562b20b6c77", func := "vellum/vellumlaw03.TallyParts", spec := "tallyParts", named := ["unicode/utf8.first", "unicode/utf8.acceptRanges"], apart := false, laid := [("unicode/utf8.acceptRanges", laid_unicode_utf8_acceptRanges), ("unicode/utf8.first", laid_unicode_utf8_first)], narrowed := true }
def TallyPartsUptoSaid : Prop := tallyPartsUptoRow.holds Tryd.pinned (OpenSpec.upto tallyPartsSpec)

/-- 'vellumlaw03.TallyWhole', WHERE WHAT IT READS IS OF BULK AT MOST 1048576: true; the input reads as it did. -/
def tallyWholeUptoRow : OpenClaim := { program := "ytpihmbdfhhjleaadoor", sum := "c466d0bc2ffcd723091357cbf02e66f79f4f399f577ce0f4ce7de562b20b6c77", func := "vellum/vellumlaw03.TallyWhole", spec := "tallyWhole", named := ["unicode/utf8.first", "unicode/utf8.acceptRanges"], apart := false, laid := [("unicode/utf8.acceptRanges", laid_unicode_utf8_acceptRanges), ("unicode/utf8.first", laid_unicode_utf8_first)], narrowed := true }
def TallyWholeUptoSaid : Prop := tallyWholeUptoRow.holds Tryd.pinned (OpenSpec.upto tallyWholeSpec)

end Rows
end Go.Proofs.YtpihmbdfhhjleaaDoor
