/-
  The contract of the library's FullRuneInString.
-/
import Derived.Test.YtfoppbignompkaaDoorLast
import Derived.Lib.DecodeNEq
import Derived.BigQuiet
import Derived.Deep.QuietTactic
namespace Go.Proofs.YtfoppbignompkaaDoor
open Go.RowKit

/-- Is a text at least one whole character, or not the beginning of one? -/
def fullN (n b0 b1 b2 : Nat) : Bool := decide (Lib.firstT b0 % 8 ≤ n) || (decide (1 < n) && (decide (b1 < Lib.accLo (Lib.firstT b0 / 16)) || decide (Lib.accHi (Lib.firstT b0 / 16) < b1))) || (decide (2 < n) && (decide (b2 < 128) || decide (191 < b2)))
def fullB (l : Bs) : Bool := fullN l.length (by' l 0) (by' l 1) (by' l 2)

theorem tab_first {w : World} (hT : Tabs w) (b : Nat) (hb : b < 256) : w.cell? ⟨0, b, none⟩ = some (.int .u8 (Lib.firstT b)) := hT.1 b hb
theorem tab_acc {w : World} (hT : Tabs w) (i : Nat) (hi : i < 16) : w.cell? ⟨1, 2 * i, none⟩ = some (.int .u8 (Lib.accLo i)) ∧ w.cell? ⟨1, 2 * i + 1, none⟩ = some (.int .u8 (Lib.accHi i)) := hT.2 i hi

end Go.Proofs.YtfoppbignompkaaDoor
