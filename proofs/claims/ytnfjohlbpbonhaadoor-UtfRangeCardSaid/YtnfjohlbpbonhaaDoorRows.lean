/-
  NARROWER THAN 'FOR EVERY INPUT', by the rows' own cells (each row's printed sentence says how): UtfPlaces: laid · UtfReads: laid · UtfCloses: laid · UtfFresh: laid · UtfSeam: laid · UtfNames: laid · UtfCuts: laid · UtfBack: laid · UtfTells: laid · UtfOrder: laid · UtfRange: laid.
  DERIVED. THE GIVEN ROWS OF THIS SEAT. 11 by the template 'for every input the law returns true; each argument reads behind the call as it read before'; 0 by the template 'total and deterministic' (their statements: YtnfjohlbpbonhaaDoorTotals.lean).
  GIVEN WITH THE SEED: the statements are not yours to turn. If you find one false, say at which input.
  Laid BY PROGRAM, IN A SANDBOX (cutbox-rows.mjs): the forced cells as the released guide's own fill.sh prints them over the translation 828ee771443b60ed… (all of the seat's roots in one cut). By AI agents, Wed Nov 11 2026. No macro, syntax, notation, axiom, sorry.
-/
import Derived.Test.YtnfjohlbpbonhaaDoorChecked
import GoSem.PinnedTables
import GoSem.Claim
import GoSem.ClaimJoined
import GoSem.ClaimMapViews
import Derived.JoinedTies
import Derived.KernelRfl
namespace Go.Proofs.YtnfjohlbpbonhaaDoor
/- THE CELL 'sum', in the pinned program and in every row, IS THE sha256 OF THE DUMP (.gsa) THAT YtnfjohlbpbonhaaDoorProg.lean LOADS. Nothing in Lean hashes anything: it is a label: what it is worth is what the hold of that sum in a sandbox is worth. -/
noncomputable def Tryd.pinned : Pinned := { name := "ytnfjohlbpbonhaadoor", sum := "828ee771443b60ed3a0c510bf7e1e30a6fd4471a87c7d3c14b20c90c1eb2b10d", checked := Tryd.checked }
namespace Rows
def none {H : Type} : Left H := { results := [], args := [] }

/- WHAT THE LISTED PACKAGE-LEVEL VARIABLES READ AS WHEN THE CALL BEGINS. Each datum BY PROGRAM (the guide's laid-datum.mjs) off the statement by which the dump's own 'gosem.cut.vars' lays the variable. In a bare row this is a premise. The card (YtnfjohlbpbonhaaDoorCards.lean) ties it to the program's text. -/
def laid_unicode_utf8_acceptRanges {H : Type} : DataW H := .agg [.agg [.lit (.int .u8 128), .lit (.int .u8 191)], .agg [.lit (.int .u8 160), .lit (.int .u8 191)], .agg [.lit (.int .u8 128), .lit (.int .u8 159)], .agg [.lit (.int .u8 144), .lit (.int .u8 191)], .agg [.lit (.int .u8 128), .lit (.int .u8 143)], .agg [.lit (.int .u8 0), .lit (.int .u8 0)], .agg [.lit (.int .u8 0), .lit (.int .u8 0)], .agg [.lit (.int .u8 0), .lit (.int .u8 0)], .agg [.lit (.int .u8 0), .lit (.int .u8 0)], .agg [.lit (.int .u8 0), .lit (.int .u8 0)], .agg [.lit (.int .u8 0), .lit (.int .u8 0)], .agg [.lit (.int .u8 0), .lit (.int .u8 0)], .agg [.lit (.int .u8 0), .lit (.int .u8 0)], .agg [.lit (.int .u8 0), .lit (.int .u8 0)], .agg [.lit (.int .u8 0), .lit (.int .u8 0)], .agg [.lit (.int .u8 0), .lit (.int .u8 0)]]
/-- One of Go's own tables, pinned by name: the form's constant. -/
def laid_unicode_utf8_first : DataW Unit := Go.Pinned.utf8First

/-- 'vellumlaw02.UtfPlaces': WHATEVER THE INPUT: true; the input reads as it did. -/
def utfPlacesSpec : ChangeSpec := { name := "utfPlaces", fn := fun _ => fun
  | [d1, d2] => { results := [.lit (.bool true)], args := [d1, d2] }
  | _ => none }
def utfPlacesRow : OpenClaim := { program := "ytnfjohlbpbonhaadoor", sum := "828ee771443b60ed3a0c510bf7e1e30a6fd4471a87c7d3c14b20c90c1eb2b10d", func := "vellum/vellumlaw02.UtfPlaces", spec := "utfPlaces", named := ["unicode/utf8.first", "unicode/utf8.acceptRanges"], apart := false, laid := [("unicode/utf8.acceptRanges", laid_unicode_utf8_acceptRanges), ("unicode/utf8.first", laid_unicode_utf8_first)] }
def UtfPlacesSaid : Prop := utfPlacesRow.holds Tryd.pinned (OpenSpec.ofChange utfPlacesSpec)

/-- ITS FALSE NEIGHBOUR: 'it returns false'. Refute it at one input. -/
def utfPlacesWrong : ChangeSpec := { name := "utfPlaces", fn := fun _ => fun
  | [d1, d2] => { results := [.lit (.bool false)], args := [d1, d2] }
  | _ => none }
def UtfPlacesWrongFalsely : Prop := utfPlacesRow.holds Tryd.pinned (OpenSpec.ofChange utfPlacesWrong)

/-- 'vellumlaw02.UtfReads': WHATEVER THE INPUT: true; the input reads as it did. -/
def utfReadsSpec : ChangeSpec := { name := "utfReads", fn := fun _ => fun
  | [d] => { results := [.lit (.bool true)], args := [d] }
  | _ => none }
def utfReadsRow : OpenClaim := { program := "ytnfjohlbpbonhaadoor", sum := "828ee771443b60ed3a0c510bf7e1e30a6fd4471a87c7d3c14b20c90c1eb2b10d", func := "vellum/vellumlaw02.UtfReads", spec := "utfReads", recurses := true, named := ["unicode/utf8.first", "unicode/utf8.acceptRanges"], apart := false, laid := [("unicode/utf8.acceptRanges", laid_unicode_utf8_acceptRanges), ("unicode/utf8.first", laid_unicode_utf8_first)] }
def UtfReadsSaid : Prop := utfReadsRow.holds Tryd.pinned (OpenSpec.ofChange utfReadsSpec)

/-- ITS FALSE NEIGHBOUR: 'it returns false'. Refute it at one input. -/
def utfReadsWrong : ChangeSpec := { name := "utfReads", fn := fun _ => fun
  | [d] => { results := [.lit (.bool false)], args := [d] }
  | _ => none }
def UtfReadsWrongFalsely : Prop := utfReadsRow.holds Tryd.pinned (OpenSpec.ofChange utfReadsWrong)

/-- 'vellumlaw02.UtfCloses': WHATEVER THE INPUT: true; the input reads as it did. -/
def utfClosesSpec : ChangeSpec := { name := "utfCloses", fn := fun _ => fun
  | [d1, d2] => { results := [.lit (.bool true)], args := [d1, d2] }
  | _ => none }
def utfClosesRow : OpenClaim := { program := "ytnfjohlbpbonhaadoor", sum := "828ee771443b60ed3a0c510bf7e1e30a6fd4471a87c7d3c14b20c90c1eb2b10d", func := "vellum/vellumlaw02.UtfCloses", spec := "utfCloses", recurses := true, named := ["unicode/utf8.first", "unicode/utf8.acceptRanges"], apart := false, laid := [("unicode/utf8.acceptRanges", laid_unicode_utf8_acceptRanges), ("unicode/utf8.first", laid_unicode_utf8_first)] }
def UtfClosesSaid : Prop := utfClosesRow.holds Tryd.pinned (OpenSpec.ofChange utfClosesSpec)

/-- ITS FALSE NEIGHBOUR: 'it returns false'. Refute it at one input. -/
def utfClosesWrong : ChangeSpec := { name := "utfCloses", fn := fun _ => fun
  | [d1, d2] => { results := [.lit (.bool false)], args := [d1, d2] }
  | _ => none }
def UtfClosesWrongFalsely : Prop := utfClosesRow.holds Tryd.pinned (OpenSpec.ofChange utfClosesWrong)

/-- 'vellumlaw02.UtfFresh': WHATEVER THE INPUT: true; the input reads as it did. -/
def utfFreshSpec : ChangeSpec := { name := "utfFresh", fn := fun _ => fun
  | [d] => { results := [.lit (.bool true)], args := [d] }
  | _ => none }
def utfFreshRow : OpenClaim := { program := "ytnfjohlbpbonhaadoor", sum := "828ee771443b60ed3a0c510bf7e1e30a6fd4471a87c7d3c14b20c90c1eb2b10d", func := "vellum/vellumlaw02.UtfFresh", spec := "utfFresh", named := ["unicode/utf8.first", "unicode/utf8.acceptRanges"], apart := false, laid := [("unicode/utf8.acceptRanges", laid_unicode_utf8_acceptRanges), ("unicode/utf8.first", laid_unicode_utf8_first)] }
def UtfFreshSaid : Prop := utfFreshRow.holds Tryd.pinned (OpenSpec.ofChange utfFreshSpec)

/-- ITS FALSE NEIGHBOUR: 'it returns false'. Refute it at one input. -/
def utfFreshWrong : ChangeSpec := { name := "utfFresh", fn := fun _ => fun
  | [d] => { results := [.lit (.bool false)], args := [d] }
  | _ => none }
def UtfFreshWrongFalsely : Prop := utfFreshRow.holds Tryd.pinned (OpenSpec.ofChange utfFreshWrong)

/-- 'vellumlaw02.UtfSeam': WHATEVER THE INPUT: true; the input reads as it did. -/
def utfSeamSpec : ChangeSpec := { name := "utfSeam", fn := fun _ => fun
  | [d1, d2] => { results := [.lit (.bool true)], args := [d1, d2] }
  | _ => none }
def utfSeamRow : OpenClaim := { program := "ytnfjohlbpbonhaadoor", sum := "828ee771443b60ed3a0c510bf7e1e30a6fd4471a87c7d3c14b20c90c1eb2b10d", func := "vellum/vellumlaw02.UtfSeam", spec := "utfSeam", named := ["unicode/utf8.first", "unicode/utf8.acceptRanges"], apart := false, laid := [("unicode/utf8.acceptRanges", laid_unicode_utf8_acceptRanges), ("unicode/utf8.first", laid_unicode_utf8_first)] }
def UtfSeamSaid : Prop := utfSeamRow.holds Tryd.pinned (OpenSpec.ofChange utfSeamSpec)

/-- ITS FALSE NEIGHBOUR: 'it returns false'. Refute it at one input. -/
def utfSeamWrong : ChangeSpec := { name := "utfSeam", fn := fun _ => fun
  | [d1, d2] => { results := [.lit (.bool false)], args := [d1, d2] }
  | _ => none }
def UtfSeamWrongFalsely : Prop := utfSeamRow.holds Tryd.pinned (OpenSpec.ofChange utfSeamWrong)

/-- 'vellumlaw02.UtfNames': WHATEVER THE INPUT: true; the input reads as it did. -/
def utfNamesSpec : ChangeSpec := { name := "utfNames", fn := fun _ => fun
  | [] => { results := [.lit (.bool true)], args := [] }
  | _ => none }
def utfNamesRow : OpenClaim := { program := "ytnfjohlbpbonhaadoor", sum := "828ee771443b60ed3a0c510bf7e1e30a6fd4471a87c7d3c14b20c90c1eb2b10d", func := "vellum/vellumlaw02.UtfNames", spec := "utfNames", named := ["unicode/utf8.first", "unicode/utf8.acceptRanges"], apart := false, laid := [("unicode/utf8.acceptRanges", laid_unicode_utf8_acceptRanges), ("unicode/utf8.first", laid_unicode_utf8_first)] }
def UtfNamesSaid : Prop := utfNamesRow.holds Tryd.pinned (OpenSpec.ofChange utfNamesSpec)

/-- ITS FALSE NEIGHBOUR: 'it returns false'. Refute it at one input. -/
def utfNamesWrong : ChangeSpec := { name := "utfNames", fn := fun _ => fun
  | [] => { results := [.lit (.bool false)], args := [] }
  | _ => none }
def UtfNamesWrongFalsely : Prop := utfNamesRow.holds Tryd.pinned (OpenSpec.ofChange utfNamesWrong)

/-- 'vellumlaw02.UtfCuts': WHATEVER THE INPUT: true; the input reads as it did. -/
def utfCutsSpec : ChangeSpec := { name := "utfCuts", fn := fun _ => fun
  | [d] => { results := [.lit (.bool true)], args := [d] }
  | _ => none }
def utfCutsRow : OpenClaim := { program := "ytnfjohlbpbonhaadoor", sum := "828ee771443b60ed3a0c510bf7e1e30a6fd4471a87c7d3c14b20c90c1eb2b10d", func := "vellum/vellumlaw02.UtfCuts", spec := "utfCuts", named := ["unicode/utf8.first", "unicode/utf8.acceptRanges"], apart := false, laid := [("unicode/utf8.acceptRanges", laid_unicode_utf8_acceptRanges), ("unicode/utf8.first", laid_unicode_utf8_first)] }
def UtfCutsSaid : Prop := utfCutsRow.holds Tryd.pinned (OpenSpec.ofChange utfCutsSpec)

/-- ITS FALSE NEIGHBOUR: 'it returns false'. Refute it at one input. -/
def utfCutsWrong : ChangeSpec := { name := "utfCuts", fn := fun _ => fun
  | [d] => { results := [.lit (.bool false)], args := [d] }
  | _ => none }
def UtfCutsWrongFalsely : Prop := utfCutsRow.holds Tryd.pinned (OpenSpec.ofChange utfCutsWrong)

/-- 'vellumlaw02.UtfBack': WHATEVER THE INPUT: true; the input reads as it did. -/
def utfBackSpec : ChangeSpec := { name := "utfBack", fn := fun _ => fun
  | [d1, d2] => { results := [.lit (.bool true)], args := [d1, d2] }
  | _ => none }
def utfBackRow : OpenClaim := { program := "ytnfjohlbpbonhaadoor", sum := "828ee771443b60ed3a0c510bf7e1e30a6fd4471a87c7d3c14b20c90c1eb2b10d", func := "vellum/vellumlaw02.UtfBack", spec := "utfBack", unfollowed := true, recurses := true, named := ["unicode/utf8.first", "unicode/utf8.acceptRanges"], apart := false, laid := [("unicode/utf8.acceptRanges", laid_unicode_utf8_acceptRanges), ("unicode/utf8.first", laid_unicode_utf8_first)] }
def UtfBackSaid : Prop := utfBackRow.holds Tryd.pinned (OpenSpec.ofChange utfBackSpec)

/-- ITS FALSE NEIGHBOUR: 'it returns false'. Refute it at one input. -/
def utfBackWrong : ChangeSpec := { name := "utfBack", fn := fun _ => fun
  | [d1, d2] => { results := [.lit (.bool false)], args := [d1, d2] }
  | _ => none }
def UtfBackWrongFalsely : Prop := utfBackRow.holds Tryd.pinned (OpenSpec.ofChange utfBackWrong)

/-- 'vellumlaw02.UtfTells': WHATEVER THE INPUT: true; the input reads as it did. -/
def utfTellsSpec : ChangeSpec := { name := "utfTells", fn := fun _ => fun
  | [d1, d2] => { results := [.lit (.bool true)], args := [d1, d2] }
  | _ => none }
def utfTellsRow : OpenClaim := { program := "ytnfjohlbpbonhaadoor", sum := "828ee771443b60ed3a0c510bf7e1e30a6fd4471a87c7d3c14b20c90c1eb2b10d", func := "vellum/vellumlaw02.UtfTells", spec := "utfTells", unfollowed := true, recurses := true, named := ["unicode/utf8.first", "unicode/utf8.acceptRanges"], apart := false, laid := [("unicode/utf8.acceptRanges", laid_unicode_utf8_acceptRanges), ("unicode/utf8.first", laid_unicode_utf8_first)] }
def UtfTellsSaid : Prop := utfTellsRow.holds Tryd.pinned (OpenSpec.ofChange utfTellsSpec)

/-- ITS FALSE NEIGHBOUR: 'it returns false'. Refute it at one input. -/
def utfTellsWrong : ChangeSpec := { name := "utfTells", fn := fun _ => fun
  | [d1, d2] => { results := [.lit (.bool false)], args := [d1, d2] }
  | _ => none }
def UtfTellsWrongFalsely : Prop := utfTellsRow.holds Tryd.pinned (OpenSpec.ofChange utfTellsWrong)

/-- 'vellumlaw02.UtfOrder': WHATEVER THE INPUT: true; the input reads as it did. -/
def utfOrderSpec : ChangeSpec := { name := "utfOrder", fn := fun _ => fun
  | [d1, d2, d3] => { results := [.lit (.bool true)], args := [d1, d2, d3] }
  | _ => none }
def utfOrderRow : OpenClaim := { program := "ytnfjohlbpbonhaadoor", sum := "828ee771443b60ed3a0c510bf7e1e30a6fd4471a87c7d3c14b20c90c1eb2b10d", func := "vellum/vellumlaw02.UtfOrder", spec := "utfOrder", named := ["unicode/utf8.first", "unicode/utf8.acceptRanges"], apart := false, laid := [("unicode/utf8.acceptRanges", laid_unicode_utf8_acceptRanges), ("unicode/utf8.first", laid_unicode_utf8_first)] }
def UtfOrderSaid : Prop := utfOrderRow.holds Tryd.pinned (OpenSpec.ofChange utfOrderSpec)

/-- ITS FALSE NEIGHBOUR: 'it returns false'. Refute it at one input. -/
def utfOrderWrong : ChangeSpec := { name := "utfOrder", fn := fun _ => fun
  | [d1, d2, d3] => { results := [.lit (.bool false)], args := [d1, d2, d3] }
  | _ => none }
def UtfOrderWrongFalsely : Prop := utfOrderRow.holds Tryd.pinned (OpenSpec.ofChange utfOrderWrong)

/-- 'vellumlaw02.UtfRange': WHATEVER THE INPUT: true; the input reads as it did. -/
def utfRangeSpec : ChangeSpec := { name := "utfRange", fn := fun _ => fun
  | [d] => { results := [.lit (.bool true)], args := [d] }
  | _ => none }
def utfRangeRow : OpenClaim := { program := "ytnfjohlbpbonhaadoor", sum := "828ee771443b60ed3a0c510bf7e1e30a6fd4471a87c7d3c14b20c90c1eb2b10d", func := "vellum/vellumlaw02.UtfRange", spec := "utfRange", unfollowed := true, recurses := true, named := ["unicode/utf8.first", "unicode/utf8.acceptRanges"], apart := false, laid := [("unicode/utf8.acceptRanges", laid_unicode_utf8_acceptRanges), ("unicode/utf8.first", laid_unicode_utf8_first)] }
def UtfRangeSaid : Prop := utfRangeRow.holds Tryd.pinned (OpenSpec.ofChange utfRangeSpec)

/-- ITS FALSE NEIGHBOUR: 'it returns false'. Refute it at one input. -/
def utfRangeWrong : ChangeSpec := { name := "utfRange", fn := fun _ => fun
  | [d] => { results := [.lit (.bool false)], args := [d] }
  | _ => none }
def UtfRangeWrongFalsely : Prop := utfRangeRow.holds Tryd.pinned (OpenSpec.ofChange utfRangeWrong)

/- THE SECOND FORM. 'bulk': how many values and letters a reading holds, each counted each time it is reached (what is shared counts as often as it is met; a slice's spare places count too). A statement '..UptoSaid' is the law's where the arguments, and the package variables that the reading takes, are together of bulk at most 1048576: NARROWER than '..Said'. Prove '..Said' where nothing that the law and all that it calls make is longer than what came in: it says more and counts as full. Else prove '..UptoSaid'. A law counts once. -/
mutual
def uptoBulk {H : Type} : DataW H → Nat
  | .lit (.string bytes) => bytes.length + 1
  | .lit _ => 1
  | .nil => 1
  | .ptr d => uptoBulk d + 1
  | .slice elems spare => uptoBulkAll elems + uptoBulkAll spare + 1
  | .agg parts => uptoBulkAll parts + 1
  | .iface _ d => uptoBulk d + 1
  | .map entries => uptoBulkEntries entries + 1
  | .held _ => 1
def uptoBulkAll {H : Type} : List (DataW H) → Nat
  | [] => 0
  | d :: r => uptoBulk d + uptoBulkAll r
def uptoBulkEntries {H : Type} : List (Lit × DataW H) → Nat
  | [] => 0
  | x :: r => uptoBulkEntry x + uptoBulkEntries r
def uptoBulkEntry {H : Type} : Lit × DataW H → Nat
  | (.string bytes, d) => bytes.length + uptoBulk d + 1
  | (_, d) => uptoBulk d + 1
 end
def uptoSmall : (H : Type) → List (DataW H) → Bool := fun _ ds => decide (uptoBulkAll ds ≤ 1048576)
def OpenSpec.upto (s : _root_.Go.ChangeSpec) : _root_.Go.OpenSpec := { _root_.Go.OpenSpec.ofChange s with cond := some uptoSmall }

/-- 'vellumlaw02.UtfPlaces', WHERE WHAT IT READS IS OF BULK AT MOST 1048576: true; the input reads as it did. -/
def utfPlacesUptoRow : OpenClaim := { program := "ytnfjohlbpbonhaadoor", sum := "828ee771443b60ed3a0c510bf7e1e30a6fd4471a87c7d3c14b20c90c1eb2b10d", func := "vellum/vellumlaw02.UtfPlaces", spec := "utfPlaces", named := ["unicode/utf8.first", "unicode/utf8.acceptRanges"], apart := false, laid := [("unicode/utf8.acceptRanges", laid_unicode_utf8_acceptRanges), ("unicode/utf8.first", laid_unicode_utf8_first)], narrowed := true }
def UtfPlacesUptoSaid : Prop := utfPlacesUptoRow.holds Tryd.pinned (OpenSpec.upto utfPlacesSpec)

/-- 'vellumlaw02.UtfReads', WHERE WHAT IT READS IS OF BULK AT MOST 1048576: true; the input reads as it did. -/
def utfReadsUptoRow : OpenClaim := { program := "ytnfjohlbpbonhaadoor", sum := "828ee771443b60ed3a0c510bf7e1e30a6fd4471a87c7d3c14b20c90c1eb2b10d", func := "vellum/vellumlaw02.UtfReads", spec := "utfReads", recurses := true, named := ["unicode/utf8.first", "unicode/utf8.acceptRanges"], apart := false, laid := [("unicode/utf8.acceptRanges", laid_unicode_utf8_acceptRanges), ("unicode/utf8.first", laid_unicode_utf8_first)], narrowed := true }
def UtfReadsUptoSaid : Prop := utfReadsUptoRow.holds Tryd.pinned (OpenSpec.upto utfReadsSpec)

/-- 'vellumlaw02.UtfCloses', WHERE WHAT IT READS IS OF BULK AT MOST 1048576: true; the input reads as it did. -/
def utfClosesUptoRow : OpenClaim := { program := "ytnfjohlbpbonhaadoor", sum := "828ee771443b60ed3a0c510bf7e1e30a6fd4471a87c7d3c14b20c90c1eb2b10d", func := "vellum/vellumlaw02.UtfCloses", spec := "utfCloses", recurses := true, named := ["unicode/utf8.first", "unicode/utf8.acceptRanges"], apart := false, laid := [("unicode/utf8.acceptRanges", laid_unicode_utf8_acceptRanges), ("unicode/utf8.first", laid_unicode_utf8_first)], narrowed := true }
def UtfClosesUptoSaid : Prop := utfClosesUptoRow.holds Tryd.pinned (OpenSpec.upto utfClosesSpec)

/-- 'vellumlaw02.UtfFresh', WHERE WHAT IT READS IS OF BULK AT MOST 1048576: true; the input reads as it did. -/
def utfFreshUptoRow : OpenClaim := { program := "ytnfjohlbpbonhaadoor", sum := "828ee771443b60ed3a0c510bf7e1e30a6fd4471a87c7d3c14b20c90c1eb2b10d", func := "vellum/vellumlaw02.UtfFresh", spec := "utfFresh", named := ["unicode/utf8.first", "unicode/utf8.acceptRanges"], apart := false, laid := [("unicode/utf8.acceptRanges", laid_unicode_utf8_acceptRanges), ("unicode/utf8.first", laid_unicode_utf8_first)], narrowed := true }
def UtfFreshUptoSaid : Prop := utfFreshUptoRow.holds Tryd.pinned (OpenSpec.upto utfFreshSpec)

/-- 'vellumlaw02.UtfSeam', WHERE WHAT IT READS IS OF BULK AT MOST 1048576: true; the input reads as it did. -/
def utfSeamUptoRow : OpenClaim := { program := "ytnfjohlbpbonhaadoor", sum := "828ee771443b60ed3a0c510bf7e1e30a6fd4471a87c7d3c14b20c90c1eb2b10d", func := "vellum/vellumlaw02.UtfSeam", spec := "utfSeam", named := ["unicode/utf8.first", "unicode/utf8.acceptRanges"], apart := false, laid := [("unicode/utf8.acceptRanges", laid_unicode_utf8_acceptRanges), ("unicode/utf8.first", laid_unicode_utf8_first)], narrowed := true }
def UtfSeamUptoSaid : Prop := utfSeamUptoRow.holds Tryd.pinned (OpenSpec.upto utfSeamSpec)

/-- 'vellumlaw02.UtfNames', WHERE WHAT IT READS IS OF BULK AT MOST 1048576: true; the input reads as it did. -/
def utfNamesUptoRow : OpenClaim := { program := "ytnfjohlbpbonhaadoor", sum := "828ee771443b60ed3a0c510bf7e1e30a6fd4471a87c7d3c14b20c90c1eb2b10d", func := "vellum/vellumlaw02.UtfNames", spec := "utfNames", named := ["unicode/utf8.first", "unicode/utf8.acceptRanges"], apart := false, laid := [("unicode/utf8.acceptRanges", laid_unicode_utf8_acceptRanges), ("unicode/utf8.first", laid_unicode_utf8_first)], narrowed := true }
def UtfNamesUptoSaid : Prop := utfNamesUptoRow.holds Tryd.pinned (OpenSpec.upto utfNamesSpec)

/-- 'vellumlaw02.UtfCuts', WHERE WHAT IT READS IS OF BULK AT MOST 1048576: true; the input reads as it did. -/
def utfCutsUptoRow : OpenClaim := { program := "ytnfjohlbpbonhaadoor", sum := "828ee771443b60ed3a0c510bf7e1e30a6fd4471a87c7d3c14b20c90c1eb2b10d", func := "vellum/vellumlaw02.UtfCuts", spec := "utfCuts", named := ["unicode/utf8.first", "unicode/utf8.acceptRanges"], apart := false, laid := [("unicode/utf8.acceptRanges", laid_unicode_utf8_acceptRanges), ("unicode/utf8.first", laid_unicode_utf8_first)], narrowed := true }
def UtfCutsUptoSaid : Prop := utfCutsUptoRow.holds Tryd.pinned (OpenSpec.upto utfCutsSpec)

/-- 'vellumlaw02.UtfBack', WHERE WHAT IT READS IS OF BULK AT MOST 1048576: true; the input reads as it did. -/
def utfBackUptoRow : OpenClaim := { program := "ytnfjohlbpbonhaadoor", sum := "828ee771443b60ed3a0c510bf7e1e30a6fd4471a87c7d3c14b20c90c1eb2b10d", func := "vellum/vellumlaw02.UtfBack", spec := "utfBack", unfollowed := true, recurses := true, named := ["unicode/utf8.first", "unicode/utf8.acceptRanges"], apart := false, laid := [("unicode/utf8.acceptRanges", laid_unicode_utf8_acceptRanges), ("unicode/utf8.first", laid_unicode_utf8_first)], narrowed := true }
def UtfBackUptoSaid : Prop := utfBackUptoRow.holds Tryd.pinned (OpenSpec.upto utfBackSpec)

/-- 'vellumlaw02.UtfTells', WHERE WHAT IT READS IS OF BULK AT MOST 1048576: true; the input reads as it did. -/
def utfTellsUptoRow : OpenClaim := { program := "ytnfjohlbpbonhaadoor", sum := "828ee771443b60ed3a0c510bf7e1e30a6fd4471a87c7d3c14b20c90c1eb2b10d", func := "vellum/vellumlaw02.UtfTells", spec := "utfTells", unfollowed := true, recurses := true, named := ["unicode/utf8.first", "unicode/utf8.acceptRanges"], apart := false, laid := [("unicode/utf8.acceptRanges", laid_unicode_utf8_acceptRanges), ("unicode/utf8.first", laid_unicode_utf8_first)], narrowed := true }
def UtfTellsUptoSaid : Prop := utfTellsUptoRow.holds Tryd.pinned (OpenSpec.upto utfTellsSpec)

/-- 'vellumlaw02.UtfOrder', WHERE WHAT IT READS IS OF BULK AT MOST 1048576: true; the input reads as it did. -/
def utfOrderUptoRow : OpenClaim := { program := "ytnfjohlbpbonhaadoor", sum := "828ee771443b60ed3a0c510bf7e1e30a6fd4471a87c7d3c14b20c90c1eb2b10d", func := "vellum/vellumlaw02.UtfOrder", spec := "utfOrder", named := ["unicode/utf8.first", "unicode/utf8.acceptRanges"], apart := false, laid := [("unicode/utf8.acceptRanges", laid_unicode_utf8_acceptRanges), ("unicode/utf8.first", laid_unicode_utf8_first)], narrowed := true }
def UtfOrderUptoSaid : Prop := utfOrderUptoRow.holds Tryd.pinned (OpenSpec.upto utfOrderSpec)

/-- 'vellumlaw02.UtfRange', WHERE WHAT IT READS IS OF BULK AT MOST 1048576: true; the input reads as it did. -/
def utfRangeUptoRow : OpenClaim := { program := "ytnfjohlbpbonhaadoor", sum := "828ee771443b60ed3a0c510bf7e1e30a6fd4471a87c7d3c14b20c90c1eb2b10d", func := "vellum/vellumlaw02.UtfRange", spec := "utfRange", unfollowed := true, recurses := true, named := ["unicode/utf8.first", "unicode/utf8.acceptRanges"], apart := false, laid := [("unicode/utf8.acceptRanges", laid_unicode_utf8_acceptRanges), ("unicode/utf8.first", laid_unicode_utf8_first)], narrowed := true }
def UtfRangeUptoSaid : Prop := utfRangeUptoRow.holds Tryd.pinned (OpenSpec.upto utfRangeSpec)

end Rows
end Go.Proofs.YtnfjohlbpbonhaaDoor
