/-
  The contracts of the document's May and Sequence (package vellumref02): what they compute, on any int32.
-/
import Derived.Test.YtkknmbkfiiidmaaDoorProg
import Derived.WalkKit
import Derived.WalkSpells
import Derived.WalkLawsBesides
import Derived.Lib.Hide
import Derived.Lib.RuneBytes
namespace Go.Proofs.YtkknmbkfiiidmaaDoor
open Go.RowKit

/-- may a rune be? -/
def mayB (r : Int) : Bool := decide (0 ≤ r ∧ r ≤ 1114111 ∧ (r < 55296 ∨ 57343 < r))
theorem mayB_t {r : Int} (h : 0 ≤ r ∧ r ≤ 1114111 ∧ (r < 55296 ∨ 57343 < r)) : mayB r = true := decide_eq_true h
theorem mayB_f {r : Int} (h : ¬ (0 ≤ r ∧ r ≤ 1114111 ∧ (r < 55296 ∨ 57343 < r))) : mayB r = false := decide_eq_false h

set_option maxHeartbeats 400000 in
theorem may_any (r : Int) (w : World) :
    Calls Tryd.prog 61 #[.int .i32 r] w fun e w' => e = .returned (.bool (mayB r)) ∧ w = w' := by
  by_cases h1 : 0 ≤ r
  · by_cases h2 : r ≤ 1114111
    · by_cases h3 : r < 55296
      · go_enter Tryd.func61, Tryd.ntmps61
        go_wp2
        go_ret
        exact ⟨by rw [mayB_t (by omega)]; rfl, rfl⟩
      · by_cases h4 : 57343 < r
        · go_enter Tryd.func61, Tryd.ntmps61
          go_wp2
          go_ret
          exact ⟨by rw [mayB_t (by omega)]; rfl, rfl⟩
        · go_enter Tryd.func61, Tryd.ntmps61
          go_wp2
          go_ret
          exact ⟨by rw [mayB_f (by omega)]; rfl, rfl⟩
    · go_enter Tryd.func61, Tryd.ntmps61
      go_wp2
      go_ret
      exact ⟨by rw [mayB_f (by omega)]; rfl, rfl⟩
  · go_enter Tryd.func61, Tryd.ntmps61
    go_wp2
    go_ret
    exact ⟨by rw [mayB_f (by omega)]; rfl, rfl⟩

/-- The right sequence of a rune that may be, as the cells of a new block. -/
def seqZ (r : Int) : List Int :=
  if r < 128 then [r] else if r < 2048 then [192 + r / 64, 128 + r % 64] else if r < 65536 then [224 + r / 4096, 128 + r / 64 % 64, 128 + r % 64]
  else [240 + r / 262144, 128 + r / 4096 % 64, 128 + r / 64 % 64, 128 + r % 64]

theorem seqZ_one {r : Int} (h : r < 128) : seqZ r = [r] := by simp [seqZ, h]
theorem seqZ_two {r : Int} (h0 : ¬ r < 128) (h : r < 2048) : seqZ r = [192 + r / 64, 128 + r % 64] := by simp [seqZ, h0, h]
theorem seqZ_three {r : Int} (h0 : ¬ r < 2048) (h : r < 65536) : seqZ r = [224 + r / 4096, 128 + r / 64 % 64, 128 + r % 64] := by
  have : ¬ r < 128 := by omega
  simp [seqZ, h0, h, this]
theorem seqZ_four {r : Int} (h0 : ¬ r < 65536) : seqZ r = [240 + r / 262144, 128 + r / 4096 % 64, 128 + r / 64 % 64, 128 + r % 64] := by
  have a : ¬ r < 128 := by omega
  have b : ¬ r < 2048 := by omega
  simp [seqZ, h0, a, b]

set_option maxHeartbeats 400000 in
theorem sequence_any (r : Int) (w : World) (h0 : 0 ≤ r) (h1 : r ≤ 1114111) :
    Calls Tryd.prog 63 #[.int .i32 r] w fun e w' => e = .returned (.slice (some ⟨w.heap.size, 0, none⟩) (seqZ r).length (seqZ r).length) ∧ w' = w.alloc (.cells ((seqZ r).map (Value.int .u8)).toArray 5) := by
  by_cases h2 : r < 128
  · have H := Lib.hid (seqZ_one h2)
    go_enter Tryd.func63, Tryd.ntmps63
    go_wp2
    go_ret
    rw [H.out]
    exact ⟨rfl, rfl⟩
  · by_cases h3 : r < 2048
    · have H := Lib.hid (seqZ_two h2 h3)
      go_enter Tryd.func63, Tryd.ntmps63
      go_wp2
      go_ret
      rw [H.out]
      exact ⟨rfl, rfl⟩
    · by_cases h4 : r < 65536
      · have H := Lib.hid (seqZ_three h3 h4)
        go_enter Tryd.func63, Tryd.ntmps63
        go_wp2
        go_ret
        rw [H.out]
        exact ⟨rfl, rfl⟩
      · have H := Lib.hid (seqZ_four h4)
        go_enter Tryd.func63, Tryd.ntmps63
        go_wp2
        go_ret
        rw [H.out]
        exact ⟨rfl, rfl⟩
end Go.Proofs.YtkknmbkfiiidmaaDoor
