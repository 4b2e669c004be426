/-
  The contract of the program's Encode: on every list of int32 that is read, the text of the runes' right sequences.
-/
import Derived.Test.YtfoppbignompkaaDoorEnc
import Derived.Test.YtfoppbignompkaaDoorShelf
namespace Go.Proofs.YtfoppbignompkaaDoor
open Go.RowKit

theorem appended2 (rs : List Int) (k : Nat) (h : k < rs.length) : (encZ (rs.take k)).length + (Lib.runeCells (rs[k]?.getD 0)).length = (encZ (rs.take (k + 1))).length ∧
    (encZ (rs.take k)).map (Value.int .u8) ++ Lib.runeCells (rs[k]?.getD 0) = (encZ (rs.take (k + 1))).map (Value.int .u8) := by
  rw [encZ_snoc rs k h]
  simp [Lib.runeCells]

end Go.Proofs.YtfoppbignompkaaDoor
