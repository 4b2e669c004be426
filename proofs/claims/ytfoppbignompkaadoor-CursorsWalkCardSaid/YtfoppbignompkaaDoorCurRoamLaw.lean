/-
  Right and left, character by character: the plain law, and what the walk keeps.
-/
import Derived.Test.YtfoppbignompkaaDoorCurWords
namespace Go.Proofs.YtfoppbignompkaaDoor
open Go.RowKit

theorem info_intR : (Tryd.prog.info? 3).map (fun i => (i.zero, i.size, i.bytes)) = some (some (.int .i64 0), 1, 8) := by kernel_rfl
theorem into_at (l : Bs) (k : Nat) (hk : k ≤ countN l) : intoM l ((atN l k : Nat) : Int) = k := by
  have hle := atN_le l k
  have hc : clampN l ((atN l k : Nat) : Int) = atN l k := by unfold clampN; omega
  unfold intoM
  rw [hc, ofT_at l k hk]
theorem roam_end (l : Bs) : atN l (countN l) = l.length := (Cut.full l).at'
theorem roam_right (l : Bs) (k : Nat) (hk : k ≤ countN l) (g : Int) : movV l (atN l (intoM l ((atN l k : Nat) : Int))) g 2 = atN l (min (k + 1) (countN l)) := by
  rw [into_at l k hk]
  show atN l k + fW (l.drop (atN l k)) = _
  rcases Nat.lt_or_ge k (countN l) with h | h
  · have hlt := atL_lt l h (Nat.le_refl _)
    rw [roam_end] at hlt
    have hne : l.drop (atN l k) ≠ [] := by intro e; have := congrArg List.length e; simp at this; omega
    have hg := (cut_at l k hk).get hlt
    rw [List.length_take, Nat.min_eq_left (show k ≤ (tk l).length from hk)] at hg
    unfold fW
    rw [if_neg hne, ← hg, Nat.min_eq_left h, atN_succ l k h]
  · obtain rfl : k = countN l := by omega
    rw [roam_end, List.drop_length, Nat.min_eq_right (Nat.le_succ _), roam_end]
    rfl
theorem roam_left (l : Bs) (k : Nat) (hk : k ≤ countN l) (g : Int) : movV l (atN l (intoM l ((atN l k : Nat) : Int))) g 1 = atN l (k - 1) := by
  rw [into_at l k hk]
  show atN l k - lW (l.take (atN l k)) = _
  cases k with
  | zero => rw [atN_zero, Nat.zero_sub]
  | succ k =>
    have hs := atN_succ l k hk
    have hlt : atN l k < atN l (k + 1) := atL_lt l (Nat.lt_succ_self k) hk
    have hle := atN_le l (k + 1)
    have hne : l.take (atN l (k + 1)) ≠ [] := by intro e; have := congrArg List.length e; rw [List.length_take, List.length_nil] at this; omega
    unfold lW
    rw [if_neg hne, last_at_take l k hk, Nat.add_sub_cancel]
    omega

/-- what the walk keeps: the cursor, the places, the block for the rounds' deferred calls -/
structure Roam (w0 : World) (cb g cap n D : Nat) (l : Bs) (a an : Nat) (gl : Int) (W : World) : Prop where
  c : Blk W cb 36 [.int .u32 2, .int .i64 (a : Nat), .int .i64 (an : Nat), .int .i64 gl]
  p : Boxed W (cb + 1 + 1) 53 (.slice (some ⟨g, 0, none⟩) (n + 1) cap)
  r : ∀ k, k ≤ n → W.cell? ⟨g, k, none⟩ = some (.int .i64 (atN l k : Nat))
  d : W.heap[D]? = some (.deferred (some []))
  b : Below w0.heap.size w0 W
  s : w0.heap.size ≤ cb
theorem Roam.below {w0 W W' : World} {cb g cap n D : Nat} {l : Bs} {a an : Nat} {gl : Int} (h : Roam w0 cb g cap n D l a an gl W) (hb : Below W.heap.size W W') : Roam w0 cb g cap n D l a an gl W' :=
  ⟨h.c.below hb, (hb.block _ h.p.lt).trans h.p, fun k hk => cellKeep (h.r k hk) hb, (hb.block _ (Array.getElem?_eq_some_iff.1 h.d).1).trans h.d, nx h.b hb, h.s⟩
theorem Roam.alloc {w0 W : World} {cb g cap n D : Nat} {l : Bs} {a an : Nat} {gl : Int} (h : Roam w0 cb g cap n D l a an gl W) (o : Obj) : Roam w0 cb g cap n D l a an gl (W.alloc o) := h.below ((Below.refl _ _).alloc (Nat.le_refl _) o)
theorem Roam.set4 {w0 W : World} {cb g cap n D : Nat} {l : Bs} {a an : Nat} {gl : Int} (h : Roam w0 cb g cap n D l a an gl W) (hg : g ≠ cb) (a' an' : Nat) (gl' : Int) :
    Roam w0 cb g cap n D l a' an' gl' ((((W.setCell ⟨cb, 0, none⟩ (.int .u32 2)).setCell ⟨cb, 1, none⟩ (.int .i64 (a' : Nat))).setCell ⟨cb, 2, none⟩ (.int .i64 (an' : Nat))).setCell ⟨cb, 3, none⟩ (.int .i64 gl')) := by
  have hne : ∀ i v (W : World) x, W.cell? ⟨g, i, none⟩ = some v → ∀ j, (W.setCell ⟨cb, j, none⟩ x).cell? ⟨g, i, none⟩ = some v := fun i v W x h j => (grownBy_set W cb j x).cell h (fun e => hg (by cases e; rfl))
  have hD : D ≠ cb := fun e => by
    have h1 := h.d
    rw [e] at h1
    have h2 : W.heap[cb]? = _ := h.c
    rw [h1] at h2
    cases h2
  have hd : ∀ (W : World) x j, W.heap[D]? = some (.deferred (some [])) → (W.setCell ⟨cb, j, none⟩ x).heap[D]? = some (.deferred (some [])) := fun W x j h => (Below.heap_setCell _ _ _ D (fun e => hD (by rw [e]))).trans h
  have hp : cb + 1 + 1 ≠ cb := by omega
  exact ⟨h.c.set4 _ _ _ _, boxOther (boxOther (boxOther (boxOther h.p hp _ _) hp _ _) hp _ _) hp _ _, fun k hk => hne _ _ _ _ (hne _ _ _ _ (hne _ _ _ _ (hne _ _ _ _ (h.r k hk) _) _) _) _,
    hd _ _ _ (hd _ _ _ (hd _ _ _ (hd _ _ _ h.d))), below_set4 h.b h.s _ _ _ _, h.s⟩
end Go.Proofs.YtfoppbignompkaaDoor
