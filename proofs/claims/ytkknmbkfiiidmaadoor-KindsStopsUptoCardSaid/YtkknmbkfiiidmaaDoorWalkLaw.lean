/-
  From stop to stop: plain facts (no program in sight).
-/
import Derived.Test.YtkknmbkfiiidmaaDoorColLaw
namespace Go.Proofs.YtkknmbkfiiidmaaDoor
open Go.RowKit

theorem stops_pair (l : Bs) : (stopsL l).Pairwise (· < ·) := by
  unfold stopsL
  rw [List.pairwise_append]
  refine ⟨?_, List.pairwise_singleton _ _, ?_⟩
  · rw [List.pairwise_map]
    have h : ((List.range (countN l)).filter (stopAt l)).Pairwise (· < ·) := List.Pairwise.filter _ List.pairwise_lt_range
    refine List.Pairwise.imp_of_mem (fun {i j} _ hj hij => ?_) h
    have hj := List.mem_range.1 (List.mem_filter.1 hj).1
    exact atN_lt l hij (by omega)
  · intro x hx y hy
    obtain ⟨i, hi, rfl⟩ := List.mem_map.1 hx
    have hi := List.mem_range.1 (List.mem_filter.1 hi).1
    obtain rfl : y = l.length := by simpa using hy
    rw [← atN_full l]
    exact atN_lt l hi (Nat.le_refl _)
theorem stops_lt (l : Bs) {i j : Nat} (hj : j < (stopsL l).length) (h : i < j) : (stopsL l)[i]?.getD 0 < (stopsL l)[j]?.getD 0 := by
  have := List.pairwise_iff_getElem.1 (stops_pair l) i j (by omega) hj h
  rw [List.getElem?_eq_getElem (show i < (stopsL l).length by omega), List.getElem?_eq_getElem hj]
  exact this
theorem stops_ne (l : Bs) : 0 < (stopsL l).length := by unfold stopsL; simp
theorem stops_last (l : Bs) : (stopsL l)[(stopsL l).length - 1]?.getD 0 = l.length := by unfold stopsL; simp
theorem stops_at (l : Bs) {i : Nat} (h : i < (stopsL l).length) : ∃ m, m ≤ countN l ∧ (stopsL l)[i]?.getD 0 = atN l m := by
  have hm : (stopsL l)[i]?.getD 0 ∈ stopsL l := by rw [List.getElem?_eq_getElem h]; exact List.getElem_mem _
  unfold stopsL at hm ⊢
  rcases List.mem_append.1 hm with h1 | h1
  · obtain ⟨k, hk, e⟩ := List.mem_map.1 h1
    exact ⟨k, by have := List.mem_range.1 (List.mem_filter.1 hk).1; omega, e.symm⟩
  · exact ⟨countN l, Nat.le_refl _, by rw [atN_full]; simpa using h1⟩
theorem stops_le (l : Bs) {i : Nat} (h : i < (stopsL l).length) : (stopsL l)[i]?.getD 0 ≤ l.length := by
  obtain ⟨m, hm, e⟩ := stops_at l h
  rw [e]
  exact (cut_at l m hm).1
theorem stops_count (l : Bs) : (stopsL l).length ≤ countN l + 1 := by
  unfold stopsL
  have := List.length_filter_le (stopAt l) (List.range (countN l))
  simpa using this

theorem into_at (l : Bs) (m : Nat) (hm : m ≤ countN l) : intoM l ((atN l m : Nat) : Int) = m := by
  have h := of_at l m hm
  have hc : clampN l ((atN l m : Nat) : Int) = atN l m := by unfold clampN; omega
  unfold intoM
  rw [hc]
  exact h.2
/-- Next, from a border. -/
theorem next_at (l : Bs) (p m i : Nat) (hm : m ≤ countN l) (hp : p = atN l m) (hi : i < (stopsL l).length) (h1 : ∀ j, j < i → (stopsL l)[j]?.getD 0 ≤ p) (h2 : p < (stopsL l)[i]?.getD 0) :
    nextV l (intoM l (p : Nat)) = (stopsL l)[i]?.getD 0 := by
  subst hp
  rw [into_at l m hm, ← stops_next l m hm]
  have : (stopsL l).find? (fun x => decide (atN l m < x)) = some ((stopsL l)[i]?.getD 0) := by
    rw [List.find?_eq_some_iff_getElem]
    refine ⟨by simpa using h2, i, hi, by rw [List.getElem?_eq_getElem hi]; rfl, fun j hj => ?_⟩
    have := h1 j hj
    rw [List.getElem?_eq_getElem (show j < (stopsL l).length by omega)] at this
    simpa using this
  rw [this]
  rfl
theorem next_end (l : Bs) : nextV l (intoM l (l.length : Nat)) = l.length := by
  have e : (l.length : Nat) = atN l (countN l) := (atN_full l).symm
  have h : nextV l (intoM l ((atN l (countN l) : Nat) : Int)) = l.length := by
    rw [into_at l _ (Nat.le_refl _)]
    exact nextV_of (.inr ⟨fun i h1 h2 => by omega, rfl⟩)
  rw [← e] at h
  exact h
/-- Back, from a stop. -/
theorem back_at (l : Bs) (i : Nat) (hi : i + 1 < (stopsL l).length) : backV l (intoM l (((stopsL l)[i + 1]?.getD 0 : Nat) : Int)) = (stopsL l)[i]?.getD 0 := by
  obtain ⟨m, hm, e⟩ := stops_at l hi
  rw [e, into_at l m hm, ← stops_back l m hm, ← e]
  have : (stopsL l).reverse.find? (fun x => decide (x < (stopsL l)[i + 1]?.getD 0)) = some ((stopsL l)[i]?.getD 0) := by
    rw [List.find?_eq_some_iff_getElem]
    refine ⟨decide_eq_true (stops_lt l hi (Nat.lt_succ_self i)), (stopsL l).length - 1 - i, by rw [List.length_reverse]; omega, ?_, fun j hj => ?_⟩
    · rw [List.getElem_reverse, List.getElem?_eq_getElem (show i < (stopsL l).length by omega)]
      simp only [Option.getD_some]
      congr 1
      omega
    · rw [List.getElem_reverse]
      have h3 : ¬ (stopsL l)[(stopsL l).length - 1 - j]?.getD 0 < (stopsL l)[i + 1]?.getD 0 := by
        by_cases e : (stopsL l).length - 1 - j = i + 1
        · rw [e]; omega
        · have := stops_lt l (i := i + 1) (j := (stopsL l).length - 1 - j) (by omega) (by omega)
          omega
      rw [List.getElem?_eq_getElem (show (stopsL l).length - 1 - j < (stopsL l).length by omega)] at h3
      simpa using h3
  rw [this]
  rfl
theorem back_first (l : Bs) : backV l (intoM l (((stopsL l)[0]?.getD 0 : Nat) : Int)) = 0 := by
  obtain ⟨m, hm, e⟩ := stops_at l (stops_ne l)
  rw [e, into_at l m hm, ← stops_back l m hm, ← e]
  have : (stopsL l).reverse.find? (fun x => decide (x < (stopsL l)[0]?.getD 0)) = none := by
    rw [List.find?_eq_none]
    intro x hx
    obtain ⟨j, hj, rfl⟩ := List.mem_iff_getElem.1 (List.mem_reverse.1 hx)
    have h3 : ¬ (stopsL l)[j]?.getD 0 < (stopsL l)[0]?.getD 0 := by
      by_cases e : j = 0
      · rw [e]; omega
      · have := stops_lt l (i := 0) (j := j) hj (by omega)
        omega
    rw [List.getElem?_eq_getElem hj] at h3
    simpa using h3
  rw [this]
  rfl
theorem back_zero (l : Bs) : backV l (intoM l 0) = 0 := by
  have h : intoM l ((atN l 0 : Nat) : Int) = 0 := into_at l 0 (Nat.zero_le _)
  rw [atN_zero] at h
  rw [show (0 : Int) = ((0 : Nat) : Int) from rfl, h]
  rfl
/-- A place brought into a text, and once more. -/
theorem into_into (l : Bs) (c : Int) : intoM l ((atN l (intoM l c) : Nat) : Int) = intoM l c := into_at l _ (into_find l c).1
theorem into_near (l : Bs) (c : Int) : clampN l c - atN l (intoM l c) ≤ 3 := by
  unfold intoM
  by_cases h : clampN l c < l.length
  · obtain ⟨n, h1, h2, h3, h4, h5, _⟩ := of_find l (clampN l c) h
    rw [h2]
    exact h5
  · have e : clampN l c = l.length := by have : clampN l c ≤ l.length := by unfold clampN; omega
                                         omega
    rw [e, ofT_end, atN_full]
    omega
end Go.Proofs.YtkknmbkfiiidmaaDoor
