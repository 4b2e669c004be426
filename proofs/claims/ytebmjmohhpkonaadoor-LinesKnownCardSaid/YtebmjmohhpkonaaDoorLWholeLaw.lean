/-
  A line as a text: what stands in it (plain, no program in sight).
-/
import Derived.Test.YtebmjmohhpkonaaDoorLineLaw
namespace Go.Proofs.YtebmjmohhpkonaaDoor
open Go.RowKit

/-- a piece of a text -/
def cutL (l : Bs) (a b : Nat) : Bs := (l.drop a).take (b - a)
theorem cut_len {l : Bs} {a b : Nat} (h : a ≤ b) (hb : b ≤ l.length) : (cutL l a b).length = b - a := by
  unfold cutL; rw [List.length_take, List.length_drop]; omega
theorem by_cut {l : Bs} {a b : Nat} (i : Nat) (h : i < b - a) : by' (cutL l a b) i = by' l (a + i) := by
  unfold cutL; rw [by_take _ _ _ h, by_drop]
theorem by_cut_z {l : Bs} {a b : Nat} (h : a ≤ b) (hb : b ≤ l.length) {i : Nat} (hi : by' (cutL l a b) i ≠ 0) : i < b - a := by
  have := by_len hi
  rwa [cut_len h hb] at this

/-- No line begins within a line end. -/
theorem ln_fresh (l : Bs) (k : Nat) (hk : k < lnN l) : ¬ (lnA l k ≠ 0 ∧ by' l (lnA l k - 1) = 13 ∧ by' l (lnA l k) = 10) := by
  rintro ⟨h1, h2, h3⟩
  cases k with
  | zero => exact h1 (lnA_zero l)
  | succ k =>
    obtain ⟨g1, g2, g3, g4, g5, g6, g7⟩ := ln_get l k (by omega)
    obtain ⟨g8, g9⟩ := g7 hk
    rw [g9, g4] at h2 h3
    rw [g4] at g8
    rcases end_cases l (lnB l k) with h | h | h | h | h | h | h
    · omega
    · rw [h.2.2] at h2; rw [show lnB l k + 1 - 1 = lnB l k by omega] at h2; omega
    · rw [h.2.2] at h2; rw [show lnB l k + 2 - 1 = lnB l k + 1 by omega] at h2; omega
    · rw [h.2.2] at h3; omega
    · rw [h.2.2] at h2; rw [show lnB l k + 2 - 1 = lnB l k + 1 by omega] at h2; omega
    · rw [h.2.2.2] at h2; rw [show lnB l k + 3 - 1 = lnB l k + 2 by omega] at h2; omega
    · omega

/-- Ahead of its end no line end stands in a line's text. -/
theorem cut_no (l : Bs) (k : Nat) (hk : k < lnN l) (i : Nat) (hi : i < lnB l k - lnA l k) : endN (cutL l (lnA l k) (lnB l k + lnE l k)) i = 0 := by
  obtain ⟨g1, g2, g3, g4, g5, g6, g7⟩ := ln_get l k hk
  have hn := g5 (lnA l k + i) (by omega) (by omega)
  have hf := ln_fresh l k hk
  obtain ⟨A, hA⟩ : ∃ A, lnA l k = A := ⟨_, rfl⟩
  obtain ⟨B, hB⟩ : ∃ A, lnB l k = A := ⟨_, rfl⟩
  obtain ⟨E, hE⟩ : ∃ A, lnE l k = A := ⟨_, rfl⟩
  rw [hA] at g1 hi hn hf
  rw [hB] at g1 g2 hi
  rw [hE] at g2
  rw [hA, hB, hE]
  have e0 := by_cut (l := l) (a := A) (b := B + E) i (by omega)
  have e1 : by' (cutL l A (B + E)) (i + 1) ≠ 0 → by' (cutL l A (B + E)) (i + 1) = by' l (A + i + 1) := fun h => by
    rw [by_cut _ (by_cut_z (by omega) g2 h)]; rfl
  have e2 : by' (cutL l A (B + E)) (i + 2) ≠ 0 → by' (cutL l A (B + E)) (i + 2) = by' l (A + i + 2) := fun h => by
    rw [by_cut _ (by_cut_z (by omega) g2 h)]; rfl
  have em : i ≠ 0 → by' (cutL l A (B + E)) (i - 1) = by' l (A + i - 1) := fun h => by
    rw [by_cut _ (by omega)]; congr 1; omega
  have hz : i = 0 → A + i = A := by omega
  rcases end_cases (cutL l A (B + E)) i with h | h | h | h | h | h | h
  · exact h.2.2
  · exfalso
    by_cases hi0 : i = 0
    · subst hi0
      simp only [Nat.add_zero] at hn e0
      rcases end_cases l A with q | q | q | q | q | q | q <;> omega
    · have := em hi0
      rcases end_cases l (A + i) with q | q | q | q | q | q | q <;> omega
  · exfalso
    rcases end_cases l (A + i) with q | q | q | q | q | q | q <;> omega
  · exfalso
    rcases end_cases l (A + i) with q | q | q | q | q | q | q <;> omega
  · exfalso
    have := e1 (by omega)
    rcases end_cases l (A + i) with q | q | q | q | q | q | q <;> omega
  · exfalso
    have := e1 (by omega)
    have := e2 (by omega)
    rcases end_cases l (A + i) with q | q | q | q | q | q | q <;> omega
  · exact h.2.2.2.2

/-- The line's end is its text's, too. -/
theorem cut_end (l : Bs) (k : Nat) (hk : k + 1 < lnN l) : endN (cutL l (lnA l k) (lnB l k + lnE l k)) (lnB l k - lnA l k) = lnE l k := by
  obtain ⟨g1, g2, g3, g4, g5, g6, g7⟩ := ln_get l k (by omega)
  obtain ⟨g8, -⟩ := g7 hk
  have hf := ln_fresh l k (by omega)
  obtain ⟨A, hA⟩ : ∃ A, lnA l k = A := ⟨_, rfl⟩
  obtain ⟨B, hB⟩ : ∃ A, lnB l k = A := ⟨_, rfl⟩
  obtain ⟨E, hE⟩ : ∃ A, lnE l k = A := ⟨_, rfl⟩
  rw [hA] at g1 hf
  rw [hB] at g1 g2 g4
  rw [hE] at g2 g4 g8
  rw [hA, hB, hE]
  obtain ⟨i, hi⟩ : ∃ i, B - A = i := ⟨_, rfl⟩
  obtain rfl : B = A + i := by omega
  rw [hi]
  have e0 := by_cut (l := l) (a := A) (b := A + i + E) i (by omega)
  have e1 : by' (cutL l A (A + i + E)) (i + 1) ≠ 0 → by' (cutL l A (A + i + E)) (i + 1) = by' l (A + i + 1) := fun h => by
    rw [by_cut _ (by_cut_z (by omega) g2 h)]; rfl
  have e2 : by' (cutL l A (A + i + E)) (i + 2) ≠ 0 → by' (cutL l A (A + i + E)) (i + 2) = by' l (A + i + 2) := fun h => by
    rw [by_cut _ (by_cut_z (by omega) g2 h)]; rfl
  have f1 : 2 ≤ E → by' (cutL l A (A + i + E)) (i + 1) = by' l (A + i + 1) := fun h => by
    rw [by_cut _ (by omega)]; rfl
  have f2 : 3 ≤ E → by' (cutL l A (A + i + E)) (i + 2) = by' l (A + i + 2) := fun h => by
    rw [by_cut _ (by omega)]; rfl
  have em : i ≠ 0 → by' (cutL l A (A + i + E)) (i - 1) = by' l (A + i - 1) := fun h => by
    rw [by_cut _ (by omega)]; congr 1; omega
  rcases end_cases l (A + i) with q | q | q | q | q | q | q
  · omega
  · rcases end_cases (cutL l A (A + i + E)) i with h | h | h | h | h | h | h
    · have := em h.2.1.1
      omega
    all_goals omega
  · have := f1 (by omega)
    rcases end_cases (cutL l A (A + i + E)) i with h | h | h | h | h | h | h <;> omega
  · rcases end_cases (cutL l A (A + i + E)) i with h | h | h | h | h | h | h
    · omega
    · omega
    · have := e1 (by omega); omega
    all_goals omega
  · have := f1 (by omega)
    rcases end_cases (cutL l A (A + i + E)) i with h | h | h | h | h | h | h <;> omega
  · have := f1 (by omega)
    have := f2 (by omega)
    rcases end_cases (cutL l A (A + i + E)) i with h | h | h | h | h | h | h <;> omega
  · omega
end Go.Proofs.YtebmjmohhpkonaaDoor
