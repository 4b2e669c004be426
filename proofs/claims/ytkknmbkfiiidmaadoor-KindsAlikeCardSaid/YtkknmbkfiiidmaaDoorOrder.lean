/-
  At and Of bring each other back: plain facts, and the walk of the law UtfOrder.
-/
import Derived.Test.YtkknmbkfiiidmaaDoorAwake
namespace Go.Proofs.YtkknmbkfiiidmaaDoor
open Go.RowKit

theorem of_find (l : Bs) (q : Nat) (hq : q < l.length) : ∃ n, n < countN l ∧ ofT (tk l) q = n ∧ atN l n ≤ q ∧ q < atN l (n + 1) ∧ q - atN l n ≤ 3 ∧ (atN l n = q ↔ Border l q) := by
  obtain ⟨a, p, ha, hp, h⟩ := Cut.find l q (by omega)
  rcases h with ⟨hl, hw⟩ | ⟨h, _⟩
  · have hst := (ha.step hl).at'
    rw [List.length_append, List.length_singleton] at hst
    have h4 := (wid_bounds (l.drop p)).2
    refine ⟨a.length, ha.lt_count hl, ofT_cut ha hl hp hw, by rw [ha.at']; exact hp, by rw [hst]; exact hw, by rw [ha.at']; omega, ?_⟩
    rw [ha.at']
    constructor
    · rintro rfl; exact ⟨a, ha⟩
    · intro hb
      rcases Nat.lt_or_ge p q with h1 | h1
      · exact absurd hb (not_border_within ⟨a, ha⟩ h1 hw hl)
      · omega
  · omega

theorem atN_lt_len {l : Bs} {n : Nat} (h : n < countN l) : atN l n < l.length := by
  have hc := cut_at l n (by omega)
  rcases Nat.lt_or_ge (atN l n) l.length with h2 | h2
  · exact h2
  · have h3 := (hc.end' (by omega)).1
    have h4 := congrArg List.length h3
    simp at h4; unfold countN at h; omega

theorem of_at (l : Bs) (n : Nat) (h : n ≤ countN l) : atN l n ≤ l.length ∧ ofT (tk l) (atN l n) = n := by
  have hc := cut_at l n h
  refine ⟨hc.1, ?_⟩
  by_cases e : n = countN l
  · rw [e, atN_full, ofT_end]
  · have hlt := atN_lt_len (l := l) (n := n) (by omega)
    have := ofT_cut hc hlt (Nat.le_refl _) (by have := (wid_bounds (l.drop (atN l n))).1; omega)
    rw [this]; unfold countN at h; simp; omega

theorem c_begins (s : ByteArray) (hs : s.size ≤ 140737488351232) (c : Int) (b : Bool) (h : begB (bs s) c = b) (w : World) (hT : Tabs w) :
    Calls Tryd.prog 30 #[.string s, .int .i64 c] w fun r w' => r = .returned (.bool b) ∧ Below w.heap.size w w' := by
  have := begins_any s hs c w hT
  rwa [h] at this
theorem c_count (s : ByteArray) (hs : s.size ≤ 140737488351232) (n : Nat) (h : countN (bs s) = n) (w : World) :
    Calls Tryd.prog 36 #[.string s] w fun r w' => r = .returned (.int .i64 n) ∧ Below w.heap.size w w' := by
  have := count_any s hs w
  rwa [h] at this

end Go.Proofs.YtkknmbkfiiidmaaDoor
