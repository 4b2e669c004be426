/-
  The contracts of the program's Last, Begins, At and Of.
-/
import Derived.Test.YtpihmbdfhhjleaaDoorFirst
namespace Go.Proofs.YtpihmbdfhhjleaaDoor
open Go.RowKit

theorem rightR_imp {r : Int} {n : Nat} (h : rightR r n = false) : r = 65533 ∧ n = 1 := by
  unfold rightR at h
  simp at h
  exact h

/-! ### At -/
theorem atZ_in {l : Bs} {c : Int} (h : 0 ≤ c ∧ c ≤ (countN l : Int)) : atZ l c = (((atN l c.toNat : Nat) : Int), 0) := if_pos h
theorem atZ_out {l : Bs} {c : Int} (h : ¬ (0 ≤ c ∧ c ≤ (countN l : Int))) : atZ l c = (0, 6) := if_neg h

/-! ### Of -/
theorem ofZ_in {l : Bs} {c : Int} (h : 0 ≤ c ∧ c ≤ (l.length : Int)) : ofZ l c = (((ofT (tk l) c.toNat : Nat) : Int), 0) := if_pos h
theorem ofZ_out {l : Bs} {c : Int} (h : ¬ (0 ≤ c ∧ c ≤ (l.length : Int))) : ofZ l c = (0, 6) := if_neg h

/-- what is done when a character begins behind a place, all others having begun at it or ahead of it -/
theorem of_done {l : Bs} {done : List (Nat × Nat)} {p q : Nat} (hc : Cut l done p) (hq : q < p) (_hp : p ≤ l.length) (hall : ∀ d c, done = d ++ [c] → wsum d ≤ q) : ofT (tk l) q = done.length - 1 ∧ 1 ≤ done.length := by
  rcases List.eq_nil_or_concat done with rfl | ⟨d, c, rfl⟩
  · have := hc.2.2; simp [wsum] at this; omega
  · rw [List.concat_eq_append] at hc hall ⊢
    have h1 := hall d c rfl
    have h2 := hc.2.2
    rw [wsum_append, wsum_cons, wsum_nil] at h2
    rw [hc.2.1]
    simp only [List.append_assoc, List.singleton_append]
    rw [ofT_append _ _ _ h1, ofT, if_pos (by omega)]
    simp

/-! ### Begins -/
theorem begB_t {l : Bs} {q : Nat} (hq : q ≤ l.length) (h : Border l q) : begB l (q : Int) = true := by
  have := (bordT_iff l q hq).2 h
  simp [begB, this, hq]
theorem begB_f {l : Bs} {q : Nat} (hq : q ≤ l.length) (h : ¬ Border l q) : begB l (q : Int) = false := by
  have : bordT (tk l) q = false := Bool.eq_false_iff.2 fun e => h ((bordT_iff l q hq).1 e)
  simp [begB, this]
theorem begB_neg {l : Bs} {c : Int} (h : c < 0) : begB l c = false := by
  have : decide (0 ≤ c) = false := by simp; omega
  simp [begB, this]
theorem begB_beyond {l : Bs} {c : Int} (h : (l.length : Int) < c) : begB l c = false := by
  have : decide (c ≤ (l.length : Int)) = false := by simp; omega
  simp [begB, this]

end Go.Proofs.YtpihmbdfhhjleaaDoor
