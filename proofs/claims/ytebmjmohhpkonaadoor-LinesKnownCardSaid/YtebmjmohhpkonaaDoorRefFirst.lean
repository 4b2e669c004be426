/-
  The contracts of the document's number, begins and First.
-/
import Derived.Test.YtebmjmohhpkonaaDoorPendFn
import Derived.Test.YtebmjmohhpkonaaDoorMay
namespace Go.Proofs.YtebmjmohhpkonaaDoor
open Go.RowKit

/-- what w bytes say -/
def numZ (l : Bs) (w : Nat) : Int :=
  if w = 1 then (by' l 0 : Int) else if w = 2 then ((by' l 0 : Int) - 192) * 64 + (by' l 1 : Int) % 64
  else if w = 3 then (((by' l 0 : Int) - 224) * 64 + (by' l 1 : Int) % 64) * 64 + (by' l 2 : Int) % 64
  else ((((by' l 0 : Int) - 240) * 64 + (by' l 1 : Int) % 64) * 64 + (by' l 2 : Int) % 64) * 64 + (by' l 3 : Int) % 64

theorem numZ_1 (l : Bs) : numZ l 1 = (by' l 0 : Int) := rfl
theorem numZ_2 (l : Bs) : numZ l 2 = ((by' l 0 : Int) - 192) * 64 + (by' l 1 : Int) % 64 := rfl
theorem numZ_3 (l : Bs) : numZ l 3 = (((by' l 0 : Int) - 224) * 64 + (by' l 1 : Int) % 64) * 64 + (by' l 2 : Int) % 64 := rfl
theorem numZ_4 (l : Bs) : numZ l 4 = ((((by' l 0 : Int) - 240) * 64 + (by' l 1 : Int) % 64) * 64 + (by' l 2 : Int) % 64) * 64 + (by' l 3 : Int) % 64 := rfl

/-- does a text begin with these bytes? -/
def begZ (l : Bs) (zs : List Int) : Bool := decide (zs.length ≤ l.length ∧ ∀ i, i < zs.length → (by' l i : Int) = zs[i]?.getD 0)

end Go.Proofs.YtebmjmohhpkonaaDoor
