/-
  The walk of the law UtfReads.
-/
import Derived.Test.YtkknmbkfiiidmaaDoorRunes
namespace Go.Proofs.YtkknmbkfiiidmaaDoor
open Go.RowKit

/-- First, the program's and the document's, in one form for every text. -/
def firstV (l : Bs) : Value := if l = [] then .tuple #[.int .i32 0, .int .i64 0, .bool false] else .tuple #[.int .i32 (Lib.decodeL l).1, .int .i64 (Lib.decodeL l).2, .bool (rightR (Lib.decodeL l).1 (Lib.decodeL l).2)]

def fR (l : Bs) : Int := if l = [] then 0 else (Lib.decodeL l).1
def fW (l : Bs) : Nat := if l = [] then 0 else (Lib.decodeL l).2
def fB (l : Bs) : Bool := if l = [] then false else rightR (Lib.decodeL l).1 (Lib.decodeL l).2
theorem bs_nil {s : ByteArray} (h : s.size = 0) : bs s = [] := List.length_eq_zero_iff.1 (by rw [← size_bs]; exact h)

theorem first_any (s : ByteArray) (w : World) (hT : Tabs w) :
    Calls Tryd.prog 49 #[.string s] w fun e w' => e = .returned (.tuple #[.int .i32 (fR (bs s)), .int .i64 (fW (bs s)), .bool (fB (bs s))]) ∧ Below w.heap.size w w' := by
  by_cases h : s.size = 0
  · unfold fR fW fB
    rw [if_pos (bs_nil h), if_pos (bs_nil h), if_pos (bs_nil h)]
    exact first_empty s h w
  · unfold fR fW fB
    rw [if_neg (bs_ne h), if_neg (bs_ne h), if_neg (bs_ne h)]
    exact first_some s _ _ h rfl rfl w hT
theorem reffirst_any (s : ByteArray) (hs : s.size ≤ 140737488351232) (w : World) :
    Calls Tryd.prog 57 #[.string s] w fun e w' => e = .returned (.tuple #[.int .i32 (fR (bs s)), .int .i64 (fW (bs s)), .bool (fB (bs s))]) ∧ Below w.heap.size w w' := by
  by_cases h : s.size = 0
  · unfold fR fW fB
    rw [if_pos (bs_nil h), if_pos (bs_nil h), if_pos (bs_nil h)]
    exact reffirst_empty s h w
  · unfold fR fW fB
    rw [if_neg (bs_ne h), if_neg (bs_ne h), if_neg (bs_ne h)]
    exact reffirst_some s hs _ _ h rfl rfl w
def lR (l : Bs) : Int := if l = [] then 0 else (lastC l).1
def lW (l : Bs) : Nat := if l = [] then 0 else (lastC l).2
def lB (l : Bs) : Bool := if l = [] then false else rightR (lastC l).1 (lastC l).2
theorem last_any (s : ByteArray) (hs : s.size ≤ 140737488351232) (w : World) (hT : Tabs w) :
    Calls Tryd.prog 56 #[.string s] w fun e w' => e = .returned (.tuple #[.int .i32 (lR (bs s)), .int .i64 (lW (bs s)), .bool (lB (bs s))]) ∧ Below w.heap.size w w' := by
  by_cases h : s.size = 0
  · unfold lR lW lB
    rw [if_pos (bs_nil h), if_pos (bs_nil h), if_pos (bs_nil h)]
    exact (last_empty s h w).mono fun _ _ ⟨a, b⟩ => ⟨a, by rw [← b]; exact Below.refl _ _⟩
  · unfold lR lW lB
    rw [if_neg (bs_ne h), if_neg (bs_ne h), if_neg (bs_ne h)]
    exact last_some s hs h w hT
end Go.Proofs.YtkknmbkfiiidmaaDoor
