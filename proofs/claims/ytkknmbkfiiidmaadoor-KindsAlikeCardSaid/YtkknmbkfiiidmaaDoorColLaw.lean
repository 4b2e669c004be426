/-
  Columns and places brought into a text: plain facts (no program in sight).
-/
import Derived.Test.YtkknmbkfiiidmaaDoorStopLaw
namespace Go.Proofs.YtkknmbkfiiidmaaDoor
open Go.RowKit

/-- One more rune: the columns behind it. -/
def colStep (tab f n : Nat) (r : Int) : Nat := if r = 9 then n + (tab - (f + n) % tab) else n + widthN r
/-- The columns of the first k characters. -/
def colTo (l : Bs) (tab f : Nat) : Nat → Nat
  | 0 => 0
  | k + 1 => colStep tab f (colTo l tab f k) (((tk l)[k]?.getD (0, 0)).1 : Nat)
theorem width_le (r : Int) : widthN r ≤ 2 := by
  unfold widthN
  split
  · omega
  · split <;> omega
theorem colStep_le (tab f n : Nat) (r : Int) (h : tab ≤ 16) : colStep tab f n r ≤ n + 16 := by
  unfold colStep
  have := width_le r
  split <;> omega
theorem colTo_le (l : Bs) (tab f k : Nat) (h : tab ≤ 16) : colTo l tab f k ≤ 16 * k := by
  induction k with
  | zero => simp [colTo]
  | succ k ih =>
    have := colStep_le tab f (colTo l tab f k) (((tk l)[k]?.getD (0, 0)).1 : Nat) h
    simp only [colTo]
    omega
/-- The tab and the column, as they are brought in. -/
def tabN (t : Int) : Nat := (min (max t 1) 16).toNat
def fromN (f t : Int) : Nat := (max f 0).toNat % tabN t
theorem tabN_bounds (t : Int) : 1 ≤ tabN t ∧ tabN t ≤ 16 := by unfold tabN; omega
def colsV (l : Bs) (f t : Int) : Nat := colTo l (tabN t) (fromN f t) (countN l)

/-! ### A place brought into a text -/
def clampN (l : Bs) (c : Int) : Nat := (min (max c 0) (l.length : Int)).toNat
def intoM (l : Bs) (c : Int) : Nat := ofT (tk l) (clampN l c)
theorem into_find (l : Bs) (c : Int) : intoM l c ≤ countN l ∧ atN l (intoM l c) ≤ clampN l c ∧ clampN l c ≤ l.length ∧ Border l (atN l (intoM l c)) ∧ ∀ q, atN l (intoM l c) < q → q ≤ clampN l c → ¬ Border l q := by
  have hc : clampN l c ≤ l.length := by unfold clampN; omega
  unfold intoM
  by_cases h : clampN l c < l.length
  · obtain ⟨n, h1, h2, h3, h4, _, _⟩ := of_find l (clampN l c) h
    rw [h2]
    refine ⟨by omega, h3, hc, ⟨_, cut_at l n (by omega)⟩, fun q hq hq2 hb => ?_⟩
    obtain ⟨n', k1, k2, k3, k4, _, k6⟩ := of_find l q (by omega)
    have e : n' = n := by
      have a1 := (atN_lt_iff l (show n ≤ countN l by omega) (show n' + 1 ≤ countN l by omega)).1 (by omega)
      have a2 := (atN_lt_iff l (show n' ≤ countN l by omega) (show n + 1 ≤ countN l by omega)).1 (by omega)
      omega
    subst e
    have := k6.2 hb
    omega
  · have e : clampN l c = l.length := by omega
    rw [e, ofT_end]
    refine ⟨Nat.le_refl _, by rw [atN_full]; exact Nat.le_refl _, Nat.le_refl _, ⟨_, cut_at l _ (Nat.le_refl _)⟩, fun q hq hq2 => ?_⟩
    rw [atN_full] at hq
    omega
end Go.Proofs.YtkknmbkfiiidmaaDoor
