/-
  The place of a line and a column: the contract of Place.
-/
import Derived.Test.YtfoppbignompkaaDoorLLine
import Derived.Test.YtfoppbignompkaaDoorWhereLaw
import Derived.Test.YtfoppbignompkaaDoorLater
namespace Go.Proofs.YtfoppbignompkaaDoor
open Go.RowKit

/-- what Place answers: the place, and the error -/
def placeZ (l : Bs) (L C : Int) : Int × Int :=
  if 0 ≤ L ∧ L < (lnN l : Int) ∧ 0 ≤ C ∧ C ≤ (countN (pieceL l (lnA l L.toNat) (lnB l L.toNat)) : Int) then (((lnA l L.toNat + atN (pieceL l (lnA l L.toNat) (lnB l L.toNat)) C.toNat : Nat) : Int), 0) else (0, 6)
theorem placeZ_out {l : Bs} {L C : Int} (h : L < 0 ∨ (lnN l : Int) ≤ L) : placeZ l L C = (0, 6) := if_neg (by omega)
theorem placeZ_col {l : Bs} {k : Nat} {C : Int} (hc : C < 0 ∨ (countN (pieceL l (lnA l k) (lnB l k)) : Int) < C) : placeZ l (k : Nat) C = (0, 6) := if_neg (by rw [show ((k : Nat) : Int).toNat = k from rfl]; omega)
theorem placeZ_in {l : Bs} {k j : Nat} (hk : k < lnN l) (hj : j ≤ countN (pieceL l (lnA l k) (lnB l k))) : placeZ l (k : Nat) (j : Nat) = (((lnA l k + atN (pieceL l (lnA l k) (lnB l k)) j : Nat) : Int), 0) := if_pos (by rw [show ((k : Nat) : Int).toNat = k from rfl]; omega)

end Go.Proofs.YtfoppbignompkaaDoor
