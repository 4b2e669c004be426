/-
  The contracts of Encode, the document's and the program's: on every list of int32 that is read, the text of the runes' right sequences.
-/
import Derived.Test.YtkknmbkfiiidmaaDoorKit
import Derived.Test.YtkknmbkfiiidmaaDoorMay
namespace Go.Proofs.YtkknmbkfiiidmaaDoor
open Go.RowKit

theorem info_u8 : (Tryd.prog.info? 5).map (fun i => (i.zero, i.size, i.bytes)) = some (some (.int .u8 0), 1, 1) := by kernel_rfl

/-- The bytes of a list of runes. -/
def encZ (rs : List Int) : List Int := rs.flatMap Lib.encodeRuneZ
def encS (rs : List Int) : ByteArray := strOfNums (encZ rs)

theorem encZ_le (rs : List Int) : (encZ rs).length ≤ 4 * rs.length := by
  induction rs with
  | nil => simp [encZ]
  | cons r rs ih =>
    have := (Lib.encodeRuneZ_length r).2
    simp [encZ] at ih ⊢
    omega

theorem encZ_snoc (rs : List Int) (k : Nat) (h : k < rs.length) : encZ (rs.take (k + 1)) = encZ (rs.take k) ++ Lib.encodeRuneZ (rs[k]?.getD 0) := by
  rw [List.take_succ_eq_append_getElem h]
  unfold encZ
  rw [List.flatMap_append, List.getElem?_eq_getElem h]
  simp only [List.flatMap_cons, List.flatMap_nil, List.append_nil, Option.getD_some]

theorem encZ_take_le (rs : List Int) (k : Nat) (h : k ≤ rs.length) : (encZ (rs.take k)).length ≤ 4 * k := by
  have := encZ_le (rs.take k)
  simp at this
  omega

/-- What the document encodes for a rune: FFFD's sequence where it may not be. -/
def fixR (r : Int) : Int := if mayB r = true then r else 65533
theorem seqZ_fix (r : Int) : seqZ (fixR r) = Lib.encodeRuneZ r := by
  unfold fixR
  by_cases h : mayB r = true
  · rw [if_pos h]
    have h' := of_decide_eq_true h
    by_cases h1 : r < 128
    · rw [seqZ_one h1, Lib.encodeRuneZ_one (by omega) (by omega)]
    · by_cases h2 : r < 2048
      · rw [seqZ_two h1 h2, Lib.encodeRuneZ_two (by omega) (by omega)]
      · by_cases h3 : r < 65536
        · rw [seqZ_three h2 h3, Lib.encodeRuneZ_three (by omega)]
        · rw [seqZ_four h3, Lib.encodeRuneZ_four (by omega) (by omega)]
  · rw [if_neg h, Lib.encodeRuneZ_bad]
    · rfl
    · have h' := of_decide_eq_false (Bool.eq_false_iff.2 h)
      omega

theorem appended (rs : List Int) (k : Nat) (h : k < rs.length) : (encZ (rs.take k)).length + (seqZ (fixR (rs[k]?.getD 0))).length = (encZ (rs.take (k + 1))).length ∧
    (encZ (rs.take k)).map (Value.int .u8) ++ (seqZ (fixR (rs[k]?.getD 0))).map (Value.int .u8) = (encZ (rs.take (k + 1))).map (Value.int .u8) := by
  rw [encZ_snoc rs k h, seqZ_fix]
  simp

theorem seqZ_le (r : Int) : 1 ≤ (seqZ r).length ∧ (seqZ r).length ≤ 4 := by
  unfold seqZ
  split
  · simp
  · split
    · simp
    · split <;> simp

end Go.Proofs.YtkknmbkfiiidmaaDoor
