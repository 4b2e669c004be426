/-
  What the rows' list of variables gives: the library's two tables; and a world that bears them, for the witness.
-/
import Derived.Test.YtkknmbkfiiidmaaDoorFirst
import Derived.Test.YtkknmbkfiiidmaaDoorRows
import Derived.PinnedBridge
import Derived.Lib.LaidU8
import Derived.Lib.LaidTab
import Derived.WalkKit
import Derived.ProofKit
import Derived.OpenShut
import Derived.Deep.DeepHandedRow
namespace Go.Proofs.YtkknmbkfiiidmaaDoor
open Go.RowKit

theorem u8extra : U8Extra Tryd.prog Tryd.lays260_ren where
  n3 := by kernel_rfl
  n4 := by kernel_rfl
  y3 := by kernel_rfl
  y4 := by kernel_rfl
  c5 := by kernel_rfl
  c119 := by kernel_rfl
  c138 := by kernel_rfl

def laidList : List (String × DataW Unit) := [("unicode/utf8.acceptRanges", Rows.laid_unicode_utf8_acceptRanges), ("unicode/utf8.first", Rows.laid_unicode_utf8_first)]

theorem accept_eq : (Rows.laid_unicode_utf8_acceptRanges : DataW Unit) = Lib.acceptData := by kernel_rfl
theorem first_eq : Rows.laid_unicode_utf8_first = Lib.firstData := Pinned.utf8First_eq

theorem tabs_of_laid {W : World} (h : laidMetH Tryd.prog laidList W) : Tabs W := by
  have h' : laidMet Tryd.prog laidList W := h
  have h3 := Lib.laidMet.reads h' (n := "unicode/utf8.first") (d := Rows.laid_unicode_utf8_first) (by simp [laidList])
  have h4 := Lib.laidMet.reads h' (n := "unicode/utf8.acceptRanges") (d := Rows.laid_unicode_utf8_acceptRanges) (by simp [laidList])
  rw [first_eq] at h3
  rw [accept_eq] at h4
  exact utf8Tabs_of_reads Tryd.lays260 u8extra h3 h4

def put0 : Obj → Obj
  | .cells _ t frozen => .cells (Lib.firstTab.map (Value.int .u8)).toArray t frozen
  | o => o
def put1 : Obj → Obj
  | .cells _ t frozen => .cells (((List.range 16).map fun i => [(Lib.accLo i : Int), (Lib.accHi i : Int)]).flatten.map (Value.int .u8)).toArray t frozen
  | o => o
/-- A world for the witness: the settled one, the two tables holding what is listed. -/
noncomputable def laidWorld (os : Os) : World :=
  { World.holding Tryd.prog os ⟨#[], #[], []⟩ with heap := ((World.holding Tryd.prog os ⟨#[], #[], []⟩).heap.modify 0 put0).modify 1 put1 }

theorem own : ownKnob Tryd.prog.godebug = none := by kernel_rfl
theorem laidOut : laidOutB Tryd.prog = true := by kernel_rfl
end Go.Proofs.YtkknmbkfiiidmaaDoor
