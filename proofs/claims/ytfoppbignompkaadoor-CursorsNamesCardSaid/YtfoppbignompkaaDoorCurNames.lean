/-
  The walk of CursorsNames.
-/
import Derived.Test.YtfoppbignompkaaDoorCurB
namespace Go.Proofs.YtfoppbignompkaaDoor
open Go.RowKit

theorem cursorsNames_any (w : World) (hT : Tabs w) : Calls Tryd.prog 6 #[] w fun e w' => e = .returned (.bool true) ∧ Below w.heap.size w w' := by
  have H := Lib.hid (fun w hT => cawake_any w hT)
  have HT := Lib.hid hT
  clear hT
  go_enter Tryd.func6, Tryd.ntmps6
  go_wp2_with (go_at_call 19; (with_reducible refine (H.out _ HT.out).mono ?_); rintro e w1 ⟨rfl, hb1⟩)
  go_ret
  exact ⟨rfl, hb1⟩
end Go.Proofs.YtfoppbignompkaaDoor
