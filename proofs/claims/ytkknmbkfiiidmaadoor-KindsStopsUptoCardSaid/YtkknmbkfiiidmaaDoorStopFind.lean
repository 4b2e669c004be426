/-
  Next and Back, looked for in the list of stops: plain facts (no program in sight).
-/
import Derived.Test.YtkknmbkfiiidmaaDoorWalkLaw
namespace Go.Proofs.YtkknmbkfiiidmaaDoor
open Go.RowKit

theorem find_back (l : Bs) (M i : Nat) (hi : i < (stopsL l).length) (h1 : (stopsL l)[i]?.getD 0 < M) (h2 : ∀ j, i < j → j < (stopsL l).length → ¬ (stopsL l)[j]?.getD 0 < M) : (stopsL l).reverse.find? (fun x => decide (x < M)) = some ((stopsL l)[i]?.getD 0) := by
  rw [List.find?_eq_some_iff_getElem]
  refine ⟨decide_eq_true h1, (stopsL l).length - 1 - i, by rw [List.length_reverse]; omega, ?_, fun j hj => ?_⟩
  · rw [List.getElem_reverse, List.getElem?_eq_getElem hi]
    simp only [Option.getD_some]
    congr 1
    omega
  · rw [List.getElem_reverse]
    have h3 := h2 ((stopsL l).length - 1 - j) (by omega) (by omega)
    rw [List.getElem?_eq_getElem (show (stopsL l).length - 1 - j < (stopsL l).length by omega)] at h3
    simpa using h3
theorem back_from (l : Bs) (c : Int) (i : Nat) (hi : i < (stopsL l).length) (h1 : (stopsL l)[i]?.getD 0 < atN l (intoM l c)) (h2 : ∀ j, i < j → j < (stopsL l).length → ¬ (stopsL l)[j]?.getD 0 < atN l (intoM l c)) : backV l (intoM l c) = (stopsL l)[i]?.getD 0 := by
  rw [← stops_back l _ (into_find l c).1, find_back l _ i hi h1 h2]
  rfl
theorem back_none (l : Bs) (c : Int) (h : ∀ j, j < (stopsL l).length → ¬ (stopsL l)[j]?.getD 0 < atN l (intoM l c)) : backV l (intoM l c) = 0 := by
  have : (stopsL l).reverse.find? (fun x => decide (x < atN l (intoM l c))) = none := by
    rw [List.find?_eq_none]
    intro x hx
    obtain ⟨j, hj, rfl⟩ := List.mem_iff_getElem.1 (List.mem_reverse.1 hx)
    have h3 := h j hj
    rw [List.getElem?_eq_getElem hj] at h3
    simpa using h3
  rw [← stops_back l _ (into_find l c).1, this]
  rfl
theorem next_from (l : Bs) (c : Int) (i : Nat) (hi : i < (stopsL l).length) (h1 : ∀ j, j < i → (stopsL l)[j]?.getD 0 ≤ atN l (intoM l c)) (h2 : atN l (intoM l c) < (stopsL l)[i]?.getD 0) : nextV l (intoM l c) = (stopsL l)[i]?.getD 0 := by
  have h := next_at l (atN l (intoM l c)) (intoM l c) i (into_find l c).1 rfl hi h1 h2
  rw [into_into] at h
  exact h
theorem next_none (l : Bs) (c : Int) (h : ∀ j, j < (stopsL l).length → (stopsL l)[j]?.getD 0 ≤ atN l (intoM l c)) : nextV l (intoM l c) = l.length := by
  have hl := h ((stopsL l).length - 1) (by have := stops_ne l; omega)
  rw [stops_last] at hl
  have hm := (into_find l c).1
  have hle := (cut_at l (intoM l c) hm).1
  have e : intoM l c = countN l := by
    rcases Nat.lt_or_ge (intoM l c) (countN l) with h1 | h1
    · have := atN_lt l h1 (Nat.le_refl _)
      rw [atN_full] at this
      omega
    · omega
  rw [e]
  exact nextV_of (.inr ⟨fun i h1 h2 => by omega, rfl⟩)
end Go.Proofs.YtkknmbkfiiidmaaDoor
