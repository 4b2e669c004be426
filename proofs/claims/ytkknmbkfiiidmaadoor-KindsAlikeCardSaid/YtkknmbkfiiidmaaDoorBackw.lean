/-
  Back, from word to word: the contract of the program's function (a range over utf.Back).
-/
import Derived.Test.YtkknmbkfiiidmaaDoorCols
import Derived.Test.YtkknmbkfiiidmaaDoorIter
import Derived.RangeFuncCalls
namespace Go.Proofs.YtkknmbkfiiidmaaDoor
open Go.RowKit
attribute [local go_sem] Oper.semAt_some

/-- What was found last, and its class. -/
def lastFound (A : Nat) (pre : List (Nat × Nat)) : Nat := if pre.length = 0 then A else (pre[pre.length - 1]?.getD (0, 0)).1
def lastCls (pre : List (Nat × Nat)) : Nat := if pre.length = 0 then 0 else cls ((pre[pre.length - 1]?.getD (0, 0)).2 : Nat)
/-- No stop was told. -/
def Quiet (pre : List (Nat × Nat)) : Prop := ∀ i, i + 1 < pre.length → cls ((pre[i]?.getD (0, 0)).2 : Nat) = 0 ∨ cls ((pre[i + 1]?.getD (0, 0)).2 : Nat) = cls ((pre[i]?.getD (0, 0)).2 : Nat)
theorem Quiet.nil : Quiet [] := fun i h => by simp at h
theorem Quiet.snoc {pre : List (Nat × Nat)} {x : Nat × Nat} (h : Quiet pre) (hx : lastCls pre = 0 ∨ cls (x.2 : Nat) = lastCls pre) : Quiet (pre ++ [x]) := by
  intro i hi
  rw [List.length_append, List.length_singleton] at hi
  by_cases e : i + 1 < pre.length
  · rw [List.getElem?_append_left (by omega), List.getElem?_append_left e]
    exact h i e
  · have hl : pre.length = i + 1 := by omega
    rw [List.getElem?_append_left (by omega), List.getElem?_append_right (by omega), hl, Nat.sub_self]
    unfold lastCls at hx
    rw [if_neg (by omega), hl] at hx
    simpa using hx
theorem last_snoc (A : Nat) (pre : List (Nat × Nat)) (x : Nat × Nat) : lastFound A (pre ++ [x]) = x.1 ∧ lastCls (pre ++ [x]) = cls (x.2 : Nat) := by
  unfold lastFound lastCls
  simp

/-- The characters of a text's beginning. -/
theorem take_at (l : Bs) (m i : Nat) (hm : m ≤ countN l) (hi : i ≤ m) : atN (l.take (atN l m)) i = atN l i := by
  unfold atN
  rw [show wsum ((tk l).take m) = atN l m from rfl, took_at l m hm, List.take_take, Nat.min_eq_left hi]
theorem take_get (l : Bs) (m i : Nat) (hm : m ≤ countN l) (hi : i < m) : (tk (l.take (atN l m)))[i]? = (tk l)[i]? := by
  rw [took_at l m hm, List.getElem?_take, if_pos hi]
theorem take_count (l : Bs) (m : Nat) (hm : m ≤ countN l) : countN (l.take (atN l m)) = m := by
  unfold countN at hm ⊢
  rw [took_at l m hm, List.length_take]
  omega
theorem take_back (l : Bs) (m k : Nat) (hm : m ≤ countN l) (hk : k < m) : backF (l.take (atN l m)) k = (atN l (m - 1 - k), ((tk l)[m - 1 - k]?.getD (0, 0)).1) := by
  unfold backF allF
  rw [take_count l m hm, take_at l m _ hm (by omega), take_get l m _ hm (by omega)]
theorem ups_getD {α : Type} (f : Nat → α) (k i : Nat) (d : α) (h : i < k) : (ups f k)[i]?.getD d = f i := by rw [ups_get f k i h]; rfl

/-- What is told backwards, as classes. -/
theorem back_cls (l : Bs) (m k i : Nat) (hm : m ≤ countN l) (hk : k ≤ m) (hi : i < k) : cls (((ups (backF (l.take (atN l m))) k)[i]?.getD (0, 0)).2 : Nat) = clsAt l (m - 1 - i) := by
  rw [ups_getD _ _ _ _ hi, take_back l m i hm (by omega)]
  rfl
theorem back_quiet (l : Bs) (m k : Nat) (hm : m ≤ countN l) (hk : k ≤ m) (hq : Quiet (ups (backF (l.take (atN l m))) k)) : ∀ j, m - k < j → j < m → stopAt l j = false := by
  intro j h1 h2
  have h := hq (m - 1 - j) (by rw [ups_length]; omega)
  rw [back_cls l m k _ hm hk (by omega), back_cls l m k _ hm hk (by omega), show m - 1 - (m - 1 - j) = j by omega, show m - 1 - (m - 1 - j + 1) = j - 1 by omega] at h
  rw [stop_of (by omega)]
  rcases h with h | h
  · rw [h]; rfl
  · rw [h]; simp
/-- The end: no stop but, it may be, at the beginning. -/
theorem back_end (l : Bs) (m : Nat) (hm : m ≤ countN l) (hq : Quiet (ups (backF (l.take (atN l m))) m)) : backV l m = 0 := by
  have h := back_quiet l m m hm (Nat.le_refl _) hq
  rcases Nat.eq_zero_or_pos m with h0 | h0
  · subst h0; rfl
  · by_cases hs : stopAt l 0 = true
    · exact backV_of (.inl ⟨0, h0, hs, fun i h1 h2 => h i (by omega) h2, by rw [atN_zero]⟩)
    · refine backV_of (.inr ⟨fun i hi => ?_, rfl⟩)
      by_cases e : i = 0
      · subst e; simpa using hs
      · exact h i (by omega) hi
/-- The return: a stop was told. -/
theorem back_stop (l : Bs) (m k : Nat) (hm : m ≤ countN l) (hk : k ≤ m) {pre : List (Nat × Nat)} {x : Nat × Nat} (e : pre ++ [x] = ups (backF (l.take (atN l m))) k) (hq : Quiet pre) (h1 : lastCls pre ≠ 0) (h2 : cls (x.2 : Nat) ≠ lastCls pre) : backV l m = lastFound (atN l m) pre := by
  obtain ⟨rfl, hx, hp⟩ := ups_last e
  have hne : pre.length ≠ 0 := by intro h; unfold lastCls at h1; rw [if_pos h] at h1; exact h1 rfl
  obtain ⟨k, hk1⟩ : ∃ k, pre.length = k + 1 := ⟨pre.length - 1, by omega⟩
  rw [hk1] at hp hk hx
  have hq' : ∀ j, m - (k + 1) < j → j < m → stopAt l j = false := back_quiet l m (k + 1) hm (by omega) (by rw [← hp]; exact hq)
  have hc1 : lastCls pre = clsAt l (m - 1 - k) := by
    unfold lastCls
    rw [if_neg hne, hk1, hp, Nat.add_sub_cancel]
    exact back_cls l m (k + 1) k hm (by omega) (by omega)
  have hc2 : cls (x.2 : Nat) = clsAt l (m - 1 - (k + 1)) := by rw [hx, take_back l m (k + 1) hm (by omega)]; rfl
  have hf : lastFound (atN l m) pre = atN l (m - 1 - k) := by
    unfold lastFound
    rw [if_neg hne, hk1, hp, Nat.add_sub_cancel, ups_getD _ _ _ _ (by omega), take_back l m k hm (by omega)]
  rw [hf]
  refine backV_of (.inl ⟨m - 1 - k, by omega, ?_, fun i hi hj => hq' i (by omega) hj, rfl⟩)
  rw [stop_of (by omega), ← hc1, show m - 1 - k - 1 = m - 1 - (k + 1) by omega, ← hc2]
  simp [h1, h2]
end Go.Proofs.YtkknmbkfiiidmaaDoor
