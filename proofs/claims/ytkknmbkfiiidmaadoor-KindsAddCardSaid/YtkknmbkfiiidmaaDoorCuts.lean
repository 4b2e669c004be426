/-
  The walk of the law UtfCuts: cut at each place, a text is put together again.
-/
import Derived.Test.YtkknmbkfiiidmaaDoorSeam
import Derived.Test.YtkknmbkfiiidmaaDoorAwake
namespace Go.Proofs.YtkknmbkfiiidmaaDoor
open Go.RowKit

theorem lW_facts (l : Bs) : lW l ≤ l.length ∧ lW l ≤ 4 ∧ (lB l = false → lW l ≤ 1) ∧ (lW l = 0 → l.length = 0) := by
  unfold lW lB
  by_cases h : l = []
  · simp [h]
  · rw [if_neg h, if_neg h]
    have hl : tk l ≠ [] := by
      intro e
      have := (Cut.full l).2.2
      rw [e] at this
      rw [wsum_nil] at this
      exact h (List.length_eq_zero_iff.1 this.symm)
    have hm : lastC l ∈ tk l := by
      unfold lastC
      rw [List.getLast?_eq_some_getLast hl]
      exact List.getLast_mem hl
    have h1 := tk_wid l _ hm
    refine ⟨?_, h1.2, fun e => ?_, fun e => by omega⟩
    · have hs := (Cut.full l).2.2
      obtain ⟨a, b, e⟩ := List.append_of_mem hm
      rw [e] at hs
      unfold wsum at hs
      simp at hs
      omega
    · unfold rightR at e
      simp at e
      omega

theorem cuts_fact (l : Bs) (k : Nat) (hk : k ≤ l.length) :
    begB l (k : Int) = decide (closK (l.take k) (l.drop k) = 0) ∧
    (closK (l.take k) (l.drop k) = 0 → countN (l.take k) + countN (l.drop k) = countN l) ∧
    (closK (l.take k) (l.drop k) ≠ 0 → countN l + pendN (l.take k) + closK (l.take k) (l.drop k) = countN (l.take k) + countN (l.drop k) + 1) := by
  have e : l.take k ++ l.drop k = l := List.take_append_drop _ _
  have ht : (l.take k).length = k := by rw [List.length_take]; exact Nat.min_eq_left hk
  have hc := seam_count (l.take k) (l.drop k)
  have hb := seam_border (l.take k) (l.drop k)
  rw [e] at hc hb
  rw [ht] at hb
  refine ⟨?_, fun h => (hc.1 h).symm, fun h => hc.2 h⟩
  by_cases h : closK (l.take k) (l.drop k) = 0
  · rw [begB_t hk (hb.2 h)]; simp [h]
  · rw [begB_f hk (fun h2 => h (hb.1 h2))]; simp [h]

theorem closes_at (p b : ByteArray) (hp : p.size ≤ 140737488351232) (hb : b.size ≤ 140737488351232) (c : Nat) (h : closN (bs p) (bs b) = c) (w : World) (hT : Tabs w) :
    Calls Tryd.prog 34 #[.string p, .string b] w fun e w' => e = .returned (.int .i64 c) ∧ Below w.heap.size w w' := by
  have := closes_any p b hp hb w hT
  rwa [h] at this
theorem pending_at (s : ByteArray) (hs : s.size ≤ 140737488351232) (c : Nat) (h : pendN (bs s) = c) (w : World) (hT : Tabs w) :
    Calls Tryd.prog 33 #[.string s] w fun e w' => e = .returned (.int .i64 c) ∧ Below w.heap.size w w' := by
  have := pending_any s hs w hT
  rwa [h] at this
theorem count_at (s : ByteArray) (hs : s.size ≤ 140737488351232) (n : Nat) (h : countN (bs s) = n) (w : World) :
    Calls Tryd.prog 36 #[.string s] w fun r w' => r = .returned (.int .i64 n) ∧ Below w.heap.size w w' := by
  have := count_any s hs w
  rwa [h] at this
theorem begins_at (s : ByteArray) (hs : s.size ≤ 140737488351232) (c : Int) (b : Bool) (h : begB (bs s) c = b) (w : World) (hT : Tabs w) :
    Calls Tryd.prog 30 #[.string s, .int .i64 c] w fun r w' => r = .returned (.bool b) ∧ Below w.heap.size w w' := by
  have := begins_any s hs c w hT
  rwa [h] at this
theorem last_at (s : ByteArray) (hs : s.size ≤ 140737488351232) (r : Int) (n : Nat) (b : Bool) (h1 : lR (bs s) = r) (h2 : lW (bs s) = n) (h3 : lB (bs s) = b) (w : World) (hT : Tabs w) :
    Calls Tryd.prog 56 #[.string s] w fun e w' => e = .returned (.tuple #[.int .i32 r, .int .i64 n, .bool b]) ∧ Below w.heap.size w w' := by
  have := last_any s hs w hT
  rwa [h1, h2, h3] at this

/-- the tests of a round: what the walk asks of the numbers -/
structure CutRow (k n c W Ca Cb Cl : Nat) (B : Bool) : Prop where
  n3 : n ≤ 3
  nk : n ≤ k
  c3 : c ≤ 3
  wk : W ≤ k
  w4 : W ≤ 4
  w1 : B = false → W ≤ 1
  w0 : W = 0 → k = 0
  open' : c = 0 → Ca + Cb = Cl
  shut : c ≠ 0 → Cl + n + c = Ca + Cb + 1

theorem cut_row (l : Bs) (k : Nat) (hk : k ≤ l.length) :
    CutRow k (pendN (l.take k)) (closK (l.take k) (l.drop k)) (lW (l.take k)) (countN (l.take k)) (countN (l.drop k)) (countN l) (lB (l.take k)) := by
  have ht : (l.take k).length = k := by rw [List.length_take]; exact Nat.min_eq_left hk
  have h1 := pend_le (l.take k)
  have h2 := closN_bounds (pendP (l.take k)) (l.drop k)
  have h3 := lW_facts (l.take k)
  have h4 := cuts_fact l k hk
  rw [ht] at h1 h3
  exact ⟨h1.1, h1.2, h2.1, h3.1, h3.2.1, h3.2.2.1, h3.2.2.2, h4.2.1, h4.2.2⟩

end Go.Proofs.YtkknmbkfiiidmaaDoor
