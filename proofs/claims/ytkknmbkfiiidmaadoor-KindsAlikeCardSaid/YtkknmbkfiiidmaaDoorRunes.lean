/-
  The contracts of the document's Pending, of the program's Runes, of the law's sameRunes, and of Mend, the program's and the document's.
-/
import Derived.Test.YtkknmbkfiiidmaaDoorBegin
import Derived.Test.YtkknmbkfiiidmaaDoorChars
import Derived.Test.YtkknmbkfiiidmaaDoorEncode
namespace Go.Proofs.YtkknmbkfiiidmaaDoor
open Go.RowKit

/-! ### Runes -/
theorem owns_iter {w : World} {base : Nat} {e : TypeId} {size : Nat} {v : Value} {n : Nat} {xs : List Value} (h : w.ownsRow base e size v n xs) {K : Nat} {s : ByteArray} {p : Nat} (hk : w.heap[K]? = some (.stringIter s p)) (p' : Nat) : (w.iterAt K s p').ownsRow base e size v n xs := by
  obtain ⟨h1, h2⟩ := h
  refine ⟨h1, ?_⟩
  rcases h2 with h2 | ⟨g, cap, cur, hv, hg, hh, r⟩
  · exact .inl h2
  · refine .inr ⟨g, cap, cur, hv, hg, ?_, r⟩
    rw [Lib.iterAt_other _ _ _ _ _ (by rintro rfl; rw [hh] at hk; cases hk)]
    exact hh
theorem iter_grown {w w' : World} {base : Nat} {e : TypeId} {size : Nat} {v : Value} {n : Nat} {xs : List Value} (h : w.ownsRow base e size v n xs) (o : Obj) (hg : (w.alloc o).grownBy w' v.ownBlock) {K : Nat} {s : ByteArray} {p : Nat} (hk : w.heap[K]? = some (.stringIter s p)) : w'.heap[K]? = some (.stringIter s p) := by
  have hlt : K < w.heap.size := (Array.getElem?_eq_some_iff.1 hk).1
  rw [hg.block K (by rw [World.size_alloc]; omega) ?_]
  · rw [Below.heap_alloc _ _ _ hlt]; exact hk
  · intro e1
    rcases h.2 with ⟨rfl, _⟩ | ⟨g, cap, cur, rfl, hgb, hh, _⟩
    · simp [Value.ownBlock] at e1
    · simp [Value.ownBlock] at e1
      subst e1
      rw [hh] at hk; cases hk

/-! ### sameRunes -/
def sameZ (a b : List Int) : Bool := decide (a = b)
theorem sameZ_self (a : List Int) : sameZ a a = true := decide_eq_true rfl

/-! ### Mend -/
theorem runesZ_wf (l : Bs) : ∀ r ∈ runesZ l, -2147483648 ≤ r ∧ r ≤ 2147483647 := by
  intro r hr
  obtain ⟨c, hc, rfl⟩ := List.mem_map.1 hr
  have : ∀ (n : Nat) (m : Bs), m.length ≤ n → ∀ c ∈ tk m, c.1 ≤ 1114111 := by
    intro n
    induction n with
    | zero => intro m hm; have : m = [] := List.length_eq_zero_iff.1 (by omega); subst this; intro c hc; simp [tk_nil] at hc
    | succ n ih =>
      intro m hm c hc
      by_cases h : m = []
      · subst h; simp [tk_nil] at hc
      · rw [tk_cons m h] at hc
        rcases List.mem_cons.1 hc with rfl | hc
        · exact dec_le m
        · have h1 := (wid_bounds m).1
          have : 1 ≤ m.length := by cases m; contradiction; simp
          exact ih _ (by simp; omega) c hc
  have := this l.length l (Nat.le_refl _) c hc
  omega

end Go.Proofs.YtkknmbkfiiidmaaDoor
