/-
  Where words begin: plain facts about the characters of a text (no program in sight).
-/
import Derived.Test.YtkknmbkfiiidmaaDoorKindLaw
import Derived.Test.YtkknmbkfiiidmaaDoorIter
import Derived.Test.YtkknmbkfiiidmaaDoorOrder
namespace Go.Proofs.YtkknmbkfiiidmaaDoor
open Go.RowKit

/-- The class of a rune: 0 blank, 1 word, 2 other. -/
def cls (r : Int) : Nat := if blankB r = true then 0 else if wordB r = true then 1 else 2
def clsAt (l : Bs) (i : Nat) : Nat := cls (((tk l)[i]?.getD (0, 0)).1 : Nat)
/-- the character number i is a stop -/
def stopAt (l : Bs) (i : Nat) : Bool := clsAt l i != 0 && (i == 0 || clsAt l (i - 1) != clsAt l i)

theorem atN_lt (l : Bs) {i j : Nat} (h : i < j) (hj : j ≤ countN l) : atN l i < atN l j := by
  induction j with
  | zero => omega
  | succ j ih =>
    have hs := atN_succ l j (by omega)
    have hw := (tk_wid l ((tk l)[j]?.getD (0, 0)) (by rw [List.getElem?_eq_getElem (show j < (tk l).length from hj)]; exact List.getElem_mem _)).1
    by_cases e : i = j
    · subst e; omega
    · have := ih (by omega) (by omega); omega
theorem atN_lt_iff (l : Bs) {i j : Nat} (hi : i ≤ countN l) (hj : j ≤ countN l) : atN l i < atN l j ↔ i < j := by
  constructor
  · intro h
    rcases Nat.lt_or_ge i j with h1 | h1
    · exact h1
    · rcases Nat.lt_or_ge j i with h2 | h2
      · have := atN_lt l h2 hi; omega
      · obtain rfl : i = j := by omega
        omega
  · exact fun h => atN_lt l h hj

/-- The next stop behind the character number m. -/
def NextIs (l : Bs) (m v : Nat) : Prop :=
  (∃ k, m < k ∧ k < countN l ∧ stopAt l k = true ∧ (∀ i, m < i → i < k → stopAt l i = false) ∧ v = atN l k) ∨ ((∀ i, m < i → i < countN l → stopAt l i = false) ∧ v = l.length)
def nextV (l : Bs) (m : Nat) : Nat := match (List.range (countN l)).find? (fun i => decide (m < i) && stopAt l i) with | some k => atN l k | none => l.length
theorem nextV_of {l : Bs} {m v : Nat} (h : NextIs l m v) : nextV l m = v := by
  unfold nextV
  rcases h with ⟨k, h1, h2, h3, h4, rfl⟩ | ⟨h1, rfl⟩
  · have : (List.range (countN l)).find? (fun i => decide (m < i) && stopAt l i) = some k := by
      rw [List.find?_range_eq_some]
      refine ⟨by simp [h1, h3], by simp [h2], fun j hj => ?_⟩
      by_cases hm : m < j
      · simp [h4 j hm hj]
      · simp [hm]
    rw [this]
  · have : (List.range (countN l)).find? (fun i => decide (m < i) && stopAt l i) = none := by
      rw [List.find?_eq_none]
      intro i hi
      have hi := List.mem_range.1 hi
      by_cases hm : m < i
      · simp [h1 i hm hi]
      · simp [hm]
    rw [this]

/-- The stop ahead of the character number m. -/
def BackIs (l : Bs) (m v : Nat) : Prop :=
  (∃ k, k < m ∧ stopAt l k = true ∧ (∀ i, k < i → i < m → stopAt l i = false) ∧ v = atN l k) ∨ ((∀ i, i < m → stopAt l i = false) ∧ v = 0)
def backV (l : Bs) : Nat → Nat
  | 0 => 0
  | m + 1 => if stopAt l m = true then atN l m else backV l m
theorem backV_of {l : Bs} {m v : Nat} (h : BackIs l m v) : backV l m = v := by
  induction m with
  | zero =>
    rcases h with ⟨k, h1, _⟩ | ⟨_, rfl⟩
    · omega
    · rfl
  | succ m ih =>
    unfold backV
    rcases h with ⟨k, h1, h2, h3, rfl⟩ | ⟨h1, rfl⟩
    · by_cases e : k = m
      · subst e; rw [if_pos h2]
      · rw [if_neg (by rw [h3 m (by omega) (by omega)]; simp)]
        exact ih (.inl ⟨k, by omega, h2, fun i hi hj => h3 i hi (by omega), rfl⟩)
    · rw [if_neg (by rw [h1 m (by omega)]; simp)]
      exact ih (.inr ⟨fun i hi => h1 i (by omega), rfl⟩)

theorem find_same {α : Type} {p q : α → Bool} {l : List α} (h : ∀ x ∈ l, p x = q x) : l.find? p = l.find? q := by
  induction l with
  | nil => rfl
  | cons a l ih => rw [List.find?_cons, List.find?_cons, h a (by simp), ih (fun x hx => h x (by simp [hx]))]
/-- All stops, and the end. -/
def stopsL (l : Bs) : List Nat := ((List.range (countN l)).filter (stopAt l)).map (atN l) ++ [l.length]
theorem stops_next (l : Bs) (m : Nat) (hm : m ≤ countN l) : ((stopsL l).find? (fun x => decide (atN l m < x))).getD l.length = nextV l m := by
  unfold stopsL nextV
  rw [List.find?_append, List.find?_map, List.find?_filter]
  rw [find_same (q := fun i => decide (m < i) && stopAt l i) (fun i hi => by
    have hi := List.mem_range.1 hi
    have := atN_lt_iff l hm (show i ≤ countN l by omega)
    by_cases hs : stopAt l i = true <;> simp [hs, this])]
  cases (List.range (countN l)).find? (fun i => decide (m < i) && stopAt l i) with
  | some k => rfl
  | none =>
    simp only [Option.map_none, Option.none_or, List.find?_cons, List.find?_nil]
    split <;> rfl
theorem find_all {α : Type} {p : α → Bool} {l : List α} (h : ∀ x ∈ l, p x = true) : l.find? p = l.head? := by
  cases l with
  | nil => rfl
  | cons a l => rw [List.find?_cons, h a (by simp)]; rfl
theorem backV_head (l : Bs) (m : Nat) : (((List.range m).filter (stopAt l)).map (atN l)).reverse.head?.getD 0 = backV l m := by
  induction m with
  | zero => rfl
  | succ m ih =>
    rw [List.range_succ, List.filter_append, List.map_append, List.reverse_append]
    unfold backV
    by_cases hs : stopAt l m = true
    · simp [hs]
    · have hs' : stopAt l m = false := by simpa using hs
      simp only [hs', List.filter_cons, List.filter_nil, List.map_nil, List.reverse_nil, Bool.false_eq_true, if_false, List.nil_append]
      exact ih
/-- The last stop ahead of the character number m, looked for from the end. -/
theorem stops_back (l : Bs) (m : Nat) (hm : m ≤ countN l) : ((stopsL l).reverse.find? (fun x => decide (x < atN l m))).getD 0 = backV l m := by
  have hlen : ¬ l.length < atN l m := by have := (cut_at l m hm).1; omega
  have step : ∀ n, m ≤ n → n ≤ countN l → ((((List.range n).filter (stopAt l)).map (atN l)).reverse.find? (fun x => decide (x < atN l m))).getD 0 = backV l m := by
    intro n
    induction n with
    | zero => intro h _; obtain rfl : m = 0 := by omega
              rfl
    | succ n ih =>
      intro h hn
      by_cases e : m = n + 1
      · subst e
        rw [find_all, backV_head]
        intro x hx
        simp only [List.mem_reverse, List.mem_map, List.mem_filter, List.mem_range] at hx
        obtain ⟨i, ⟨hi, _⟩, rfl⟩ := hx
        exact decide_eq_true (atN_lt l hi hm)
      · have hmn : m ≤ n := by omega
        have h0 : (([n].filter (stopAt l)).map (atN l)).reverse.find? (fun x => decide (x < atN l m)) = none := by
          by_cases hs : stopAt l n = true
          · have h2 : ¬ atN l n < atN l m := by rw [atN_lt_iff l (by omega) hm]; omega
            simp [hs, h2]
          · simp [hs]
        rw [List.range_succ, List.filter_append, List.map_append, List.reverse_append, List.find?_append, h0, Option.none_or]
        exact ih hmn (by omega)
  unfold stopsL
  rw [List.reverse_append, List.find?_append]
  have h0 : [l.length].reverse.find? (fun x => decide (x < atN l m)) = none := by simp [hlen]
  rw [h0, Option.none_or]
  exact step (countN l) hm (Nat.le_refl _)
end Go.Proofs.YtkknmbkfiiidmaaDoor
