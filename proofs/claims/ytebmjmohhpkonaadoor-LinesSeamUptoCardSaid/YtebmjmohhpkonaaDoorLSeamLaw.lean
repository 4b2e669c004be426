/-
  Lines behind a 0A: plain facts (no program in sight).
-/
import Derived.Test.YtebmjmohhpkonaaDoorLWholeLaw
namespace Go.Proofs.YtebmjmohhpkonaaDoor
open Go.RowKit

/-- a line further on by d -/
def shL (d : Nat) (x : Nat × Nat × Nat) : Nat × Nat × Nat := (d + x.1, d + x.2.1, x.2.2)

theorem by_app_in {x b : Bs} {i : Nat} (h : i < x.length) : by' (x ++ b) i = by' x i := by_append_left x b i h
/-- Ahead of the seam line ends are those of the first text. -/
theorem seam_end_in {x b : Bs} (hx : x ≠ []) (h10 : by' x (x.length - 1) = 10) {i : Nat} (hi : i < x.length) : endN (x ++ b) i = endN x i := by
  have hl : 0 < x.length := List.length_pos_iff.2 hx
  have e0 := by_app_in (b := b) hi
  have em := by_app_in (x := x) (b := b) (i := i - 1) (by omega)
  have e1 : i + 1 < x.length → by' (x ++ b) (i + 1) = by' x (i + 1) := fun h => by_app_in h
  have e2 : i + 2 < x.length → by' (x ++ b) (i + 2) = by' x (i + 2) := fun h => by_app_in h
  by_cases h1 : i + 1 = x.length
  · have hb : by' x i = 10 := by rw [← h10]; congr 1; omega
    unfold endN
    rw [e0, em, if_pos hb, if_pos hb]
  · have e1 := e1 (by omega)
    by_cases h2 : i + 2 = x.length
    · have hb : by' x (i + 1) = 10 := by rw [← h10]; congr 1; omega
      rcases end_cases (x ++ b) i with h | h | h | h | h | h | h <;> rcases end_cases x i with q | q | q | q | q | q | q <;> omega
    · have e2 := e2 (by omega)
      unfold endN
      rw [e0, em, e1, e2]
theorem by_app_out {x b : Bs} (i : Nat) : by' (x ++ b) (x.length + i) = by' b i := by_append_right x b i
/-- Behind it those of the second. -/
theorem seam_end_out {x b : Bs} (hx : x ≠ []) (h10 : by' x (x.length - 1) = 10) (i : Nat) : endN (x ++ b) (x.length + i) = endN b i := by
  have hl : 0 < x.length := List.length_pos_iff.2 hx
  have e0 := by_app_out (x := x) (b := b) i
  have e1 : by' (x ++ b) (x.length + i + 1) = by' b (i + 1) := by_app_out (i + 1)
  have e2 : by' (x ++ b) (x.length + i + 2) = by' b (i + 2) := by_app_out (i + 2)
  have em : i ≠ 0 → by' (x ++ b) (x.length + i - 1) = by' b (i - 1) := fun h => by
    rw [← by_app_out (x := x) (b := b) (i - 1)]; congr 1; omega
  have ez : i = 0 → by' (x ++ b) (x.length + i - 1) = 10 := fun h => by
    rw [h, Nat.add_zero, by_app_in (by omega)]; exact h10
  have hc : (x.length + i ≠ 0 ∧ by' (x ++ b) (x.length + i - 1) = 13) ↔ (i ≠ 0 ∧ by' b (i - 1) = 13) := by
    by_cases h : i = 0
    · have := ez h; omega
    · have := em h; omega
  unfold endN
  rw [e0, e1, e2]
  simp only [hc]

theorem seam_out {x b : Bs} (hx : x ≠ []) (h10 : by' x (x.length - 1) = 10) : ∀ (k f i : Nat), b.length - i ≤ k → lnRest (x ++ b) (x.length + f) (x.length + i) = (lnRest b f i).map (shL x.length)
  | 0, f, i, hk => by
    rw [ln_end (by rw [List.length_append]; omega), ln_end (by omega), List.length_append]
    rfl
  | k + 1, f, i, hk => by
    have hE := seam_end_out (b := b) hx h10 i
    by_cases h : b.length ≤ i
    · rw [ln_end (by rw [List.length_append]; omega), ln_end h, List.length_append]
      rfl
    · by_cases e : endN b i = 0
      · rw [ln_no (by rw [List.length_append]; omega) (by rw [hE]; exact e), ln_no (by omega) e]
        exact seam_out hx h10 k f (i + 1) (by omega)
      · rw [ln_yes (by rw [hE]; exact e), ln_yes e, hE, List.map_cons, Nat.add_assoc, seam_out hx h10 k _ _ (by omega)]
        rfl
theorem seam_in {x b : Bs} (hx : x ≠ []) (h10 : by' x (x.length - 1) = 10) : ∀ (k f i : Nat), x.length - i ≤ k → f ≤ i → i ≤ x.length → (i = x.length → f = x.length) → (i + 1 = x.length → endN x i ≠ 0) →
    ∃ L, lnRest x f i = L ++ [(x.length, x.length, 0)] ∧ lnRest (x ++ b) f i = L ++ (linesL b).map (shL x.length)
  | 0, f, i, hk, hf, hi, h1, h2 => by
    obtain rfl : i = x.length := by omega
    obtain rfl := h1 rfl
    exact ⟨[], by rw [ln_end (Nat.le_refl _)]; rfl, seam_out hx h10 _ 0 0 (Nat.le_refl _)⟩
  | k + 1, f, i, hk, hf, hi, h1, h2 => by
    by_cases h : x.length ≤ i
    · obtain rfl : i = x.length := by omega
      obtain rfl := h1 rfl
      exact ⟨[], by rw [ln_end (Nat.le_refl _)]; rfl, seam_out hx h10 _ 0 0 (Nat.le_refl _)⟩
    · have hE := seam_end_in (b := b) hx h10 (i := i) (by omega)
      by_cases e : endN x i = 0
      · have hne : i + 1 ≠ x.length := fun q => h2 q e
        obtain ⟨L, hL1, hL2⟩ := seam_in (b := b) hx h10 k f (i + 1) (by omega) (by omega) (by omega) (fun q => absurd q hne) (fun q => by
          have hb : by' x (i + 1) = 10 := by rw [← h10]; congr 1; omega
          rcases end_cases x (i + 1) with q | q | q | q | q | q | q
          · have q2 := q.2.1.2
            rw [Nat.add_sub_cancel] at q2
            rcases end_cases x i with r | r | r | r | r | r | r <;> omega
          all_goals omega)
        refine ⟨L, ?_, ?_⟩
        · rw [ln_no (by omega) e, hL1]
        · rw [ln_no (by rw [List.length_append]; omega) (by rw [hE]; exact e), hL2]
      · have hfit := end_fits e
        obtain ⟨L, hL1, hL2⟩ := seam_in (b := b) hx h10 k (i + endN x i) (i + endN x i) (by omega) (Nat.le_refl _) hfit (fun q => q) (fun q => by
          have hb : by' x (i + endN x i) = 10 := by rw [← h10]; congr 1; omega
          rcases end_cases x (i + endN x i) with q | q | q | q | q | q | q
          · have q2 := q.2.1.2
            rcases end_cases x i with r | r | r | r | r | r | r
            · omega
            · rw [r.2.2, show i + 1 - 1 = i by omega] at q2; omega
            · rw [r.2.2, show i + 2 - 1 = i + 1 by omega] at q2; omega
            · rw [r.2.2] at hb; omega
            · rw [r.2.2, show i + 2 - 1 = i + 1 by omega] at q2; omega
            · rw [r.2.2.2, show i + 3 - 1 = i + 2 by omega] at q2; omega
            · omega
          all_goals omega)
        refine ⟨(f, i, endN x i) :: L, ?_, ?_⟩
        · rw [ln_yes e, hL1]; rfl
        · rw [ln_yes (by rw [hE]; exact e), hE, hL2]; rfl
/-- THE SEAM: behind a byte 0A lines are those of what stands there alone. -/
theorem seam_lines {x b : Bs} (hx : x ≠ []) (h10 : by' x (x.length - 1) = 10) :
    ∃ L, linesL x = L ++ [(x.length, x.length, 0)] ∧ linesL (x ++ b) = L ++ (linesL b).map (shL x.length) ∧ 1 ≤ L.length := by
  have hl : 0 < x.length := List.length_pos_iff.2 hx
  obtain ⟨L, h1, h2⟩ := seam_in (b := b) hx h10 _ 0 0 (Nat.le_refl _) (Nat.le_refl _) (Nat.zero_le _) (by omega) (fun q => by
    have hb : by' x 0 = 10 := by rw [← h10]; congr 1; omega
    rcases end_cases x 0 with q | q | q | q | q | q | q <;> omega)
  refine ⟨L, h1, h2, ?_⟩
  have h0 := lnA_zero x
  unfold lnA linesL at h0
  rw [h1] at h0
  cases L with
  | nil => simp at h0; exact absurd h0 hx
  | cons a r => simp
end Go.Proofs.YtebmjmohhpkonaaDoor
