/-
  A view, and what is asked of one, as they are handed in: opened, field by field.
-/
import Derived.Test.YticonolnagcakaaDoorVwA
import Derived.Test.YticonolnagcakaaDoorRows
import Derived.PinnedBridge
import Derived.Lib.LaidU8
import Derived.Lib.LaidTab
import Derived.WalkKit
import Derived.ProofKit
import Derived.OpenShut
import Derived.Deep.DeepHandedRow
import Derived.ShutString
import Derived.ChangeOld
import Derived.SizedLaws
namespace Go.Proofs.YticonolnagcakaaDoor
open Go.RowKit

theorem u8extra : U8Extra Tryd.prog Tryd.lays260_ren where
  n3 := by kernel_rfl
  n4 := by kernel_rfl
  y3 := by kernel_rfl
  y4 := by kernel_rfl
  c5 := by kernel_rfl
  c119 := by kernel_rfl
  c138 := by kernel_rfl

def laidList : List (String × DataW Unit) := [("unicode/utf8.acceptRanges", Rows.laid_unicode_utf8_acceptRanges), ("unicode/utf8.first", Rows.laid_unicode_utf8_first)]

theorem accept_eq : (Rows.laid_unicode_utf8_acceptRanges : DataW Unit) = Lib.acceptData := by kernel_rfl
theorem first_eq : Rows.laid_unicode_utf8_first = Lib.firstData := Pinned.utf8First_eq

theorem tabs_of_laid {W : World} (h : laidMetH Tryd.prog laidList W) : Tabs W := by
  have h' : laidMet Tryd.prog laidList W := h
  have h3 := Lib.laidMet.reads h' (n := "unicode/utf8.first") (d := Rows.laid_unicode_utf8_first) (by simp [laidList])
  have h4 := Lib.laidMet.reads h' (n := "unicode/utf8.acceptRanges") (d := Rows.laid_unicode_utf8_acceptRanges) (by simp [laidList])
  rw [first_eq] at h3
  rw [accept_eq] at h4
  exact utf8Tabs_of_reads Tryd.lays260 u8extra h3 h4

def put0 : Obj → Obj
  | .cells _ t frozen => .cells (Lib.firstTab.map (Value.int .u8)).toArray t frozen
  | o => o
def put1 : Obj → Obj
  | .cells _ t frozen => .cells (((List.range 16).map fun i => [(Lib.accLo i : Int), (Lib.accHi i : Int)]).flatten.map (Value.int .u8)).toArray t frozen
  | o => o
/-- A world for the witness: the settled one, the two tables holding what is listed. -/
noncomputable def laidWorld (os : Os) : World :=
  { World.holding Tryd.prog os ⟨#[], #[], []⟩ with heap := ((World.holding Tryd.prog os ⟨#[], #[], []⟩).heap.modify 1 put0).modify 2 put1 }

theorem own : ownKnob Tryd.prog.godebug = none := by kernel_rfl
theorem laidOut : laidOutB Tryd.prog = true := by kernel_rfl
end Go.Proofs.YticonolnagcakaaDoor

namespace Go.Proofs.YticonolnagcakaaDoor
open Go.ChangeShapes Go.WideShapes Go.ChangeAt Go.RowKit

theorem arr2 {α : Type} {cs : Array α} (h : cs.size = 2) : ∃ c0 c1, cs = #[c0, c1] := by
  obtain ⟨l⟩ := cs
  match l, h with
  | [c0, c1], _ => exact ⟨c0, c1, rfl⟩
theorem arr5 {α : Type} {cs : Array α} (h : cs.size = 5) : ∃ c0 c1 c2 c3 c4, cs = #[c0, c1, c2, c3, c4] := by
  obtain ⟨l⟩ := cs
  match l, h with
  | [c0, c1, c2, c3, c4], _ => exact ⟨c0, c1, c2, c3, c4, rfl⟩
theorem lst2 {α : Type} {cs : List α} (h : cs.length = 2) : ∃ c0 c1, cs = [c0, c1] := by
  match cs, h with
  | [c0, c1], _ => exact ⟨c0, c1, rfl⟩
theorem lst3 {α : Type} {cs : List α} (h : cs.length = 3) : ∃ c0 c1 c2, cs = [c0, c1, c2] := by
  match cs, h with
  | [c0, c1, c2], _ => exact ⟨c0, c1, c2, rfl⟩
theorem cells_int : Tryd.prog.cellsOf 3 = 1 := by kernel_rfl
theorem cells_view : Tryd.prog.cellsOf 23 = 2 := by kernel_rfl
theorem cells_spot : Tryd.prog.cellsOf 42 = 2 := by kernel_rfl
theorem cells_ask : Tryd.prog.cellsOf 44 = 5 := by kernel_rfl

set_option maxRecDepth 100000 in
theorem open_view {H : Type} {enc : TypeId × Value → H} {W : World} {base : Nat} {spare : Nat → Bool} {held : Bool} {r : Reach} {b0 : Nat} {v : Value} {d : DataW H} {p : List MemPlace}
    (hv : Value.okWide Tryd.prog W r b0 23 v) (h : DataW.Trod enc Tryd.prog W base spare held 23 v d p) :
    ∃ (b c : Int), v = .agg #[.int .i64 b, .int .i64 c] ∧ d = .agg [.lit (.int .i64 b), .lit (.int .i64 c)] ∧ p = [] := by
  obtain ⟨cs, rfl, hsz⟩ := okWide_struct Tryd.underlying23 hv
  obtain ⟨c0, c1, rfl⟩ := arr2 (hsz.trans cells_view)
  obtain ⟨fuel, hf⟩ := h
  obtain ⟨xs, n, _, hx, _, hlen, hfs⟩ := DataW.trod_struct Tryd.underlying23 hf
  obtain ⟨x0, x1, rfl⟩ := lst2 (hlen.trans rfl)
  have t0 := hfs 0 _ rfl
  have t1 := hfs 1 _ rfl
  simp [Value.cells, cells_int] at t0 t1
  obtain ⟨b, e0, rfl, _⟩ := DataW.trod_int Tryd.underlying3 t0
  obtain ⟨c, e1, rfl, _⟩ := DataW.trod_int Tryd.underlying3 t1
  simp at e0 e1 hx
  subst e0 e1
  exact ⟨b, c, rfl, hx.1, hx.2⟩

set_option maxRecDepth 100000 in
theorem open_ask {H : Type} {enc : TypeId × Value → H} {W : World} {base : Nat} {spare : Nat → Bool} {held : Bool} {r : Reach} {b0 : Nat} {v : Value} {d : DataW H} {p : List MemPlace}
    (hv : Value.okWide Tryd.prog W r b0 44 v) (h : DataW.Trod enc Tryd.prog W base spare held 44 v d p) :
    ∃ (a b m i j : Int), v = .agg #[.int .i64 a, .int .i64 b, .int .i64 m, .int .i64 i, .int .i64 j] ∧
      d = .agg [.agg [.lit (.int .i64 a), .lit (.int .i64 b)], .lit (.int .i64 m), .agg [.lit (.int .i64 i), .lit (.int .i64 j)]] ∧ p = [] := by
  obtain ⟨cs, rfl, hsz⟩ := okWide_struct Tryd.underlying44 hv
  obtain ⟨c0, c1, c2, c3, c4, rfl⟩ := arr5 (hsz.trans cells_ask)
  obtain ⟨fuel, hf⟩ := h
  obtain ⟨xs, n, _, hx, _, hlen, hfs⟩ := DataW.trod_struct Tryd.underlying44 hf
  obtain ⟨x0, x1, x2, rfl⟩ := lst3 (hlen.trans rfl)
  have t0 := hfs 0 _ rfl
  have t1 := hfs 1 _ rfl
  have t2 := hfs 2 _ rfl
  simp [Value.cells, cells_int, cells_view, cells_spot] at t0 t1 t2
  obtain ⟨ys, n2, _, hy, _, hlen2, hgs⟩ := DataW.trod_struct Tryd.underlying23 t0
  obtain ⟨y0, y1, rfl⟩ := lst2 (hlen2.trans rfl)
  have u0 := hgs 0 _ rfl
  have u1 := hgs 1 _ rfl
  simp [cells_int] at u0 u1
  obtain ⟨zs, n3, _, hz, _, hlen3, hhs⟩ := DataW.trod_struct Tryd.underlying42 t2
  obtain ⟨z0, z1, rfl⟩ := lst2 (hlen3.trans rfl)
  have s0 := hhs 0 _ rfl
  have s1 := hhs 1 _ rfl
  simp [cells_int] at s0 s1
  obtain ⟨a, f0, rfl, _⟩ := DataW.trod_int Tryd.underlying3 u0
  obtain ⟨b, f1, rfl, _⟩ := DataW.trod_int Tryd.underlying3 u1
  obtain ⟨m, e1, rfl, _⟩ := DataW.trod_int Tryd.underlying3 t1
  obtain ⟨i, g0, rfl, _⟩ := DataW.trod_int Tryd.underlying3 s0
  obtain ⟨j, g1, rfl, _⟩ := DataW.trod_int Tryd.underlying3 s1
  simp at e1 f0 f1 g0 g1 hy hz
  subst e1 f0 f1 g0 g1
  subst hy hz
  simp at hx
  exact ⟨a, b, m, i, j, rfl, hx.1, hx.2⟩
end Go.Proofs.YticonolnagcakaaDoor
