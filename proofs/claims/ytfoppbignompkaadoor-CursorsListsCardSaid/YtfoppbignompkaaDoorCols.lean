/-
  Columns: the contract of the program's function.
-/
import Derived.Test.YtfoppbignompkaaDoorNext
namespace Go.Proofs.YtfoppbignompkaaDoor
open Go.RowKit

end Go.Proofs.YtfoppbignompkaaDoor
