/-
  The line and the column of a place: plain facts (no program in sight).
-/
import Derived.Test.YtfoppbignompkaaDoorLineLaw
import Derived.Test.YtfoppbignompkaaDoorIter
namespace Go.Proofs.YtfoppbignompkaaDoor
open Go.RowKit

theorem atL_lt (l : Bs) {i j : Nat} (h : i < j) (hj : j ≤ countN l) : atN l i < atN l j := by
  induction j with
  | zero => omega
  | succ j ih =>
    have hs := atN_succ l j (by omega)
    have hw := (tk_wid l ((tk l)[j]?.getD (0, 0)) (by rw [List.getElem?_eq_getElem (show j < (tk l).length from hj)]; exact List.getElem_mem _)).1
    by_cases e : i = j
    · subst e; omega
    · have := ih (by omega) (by omega); omega
theorem atL_le (l : Bs) {i j : Nat} (h : i ≤ j) (hj : j ≤ countN l) : atN l i ≤ atN l j := by
  rcases Nat.lt_or_ge i j with h1 | h1
  · exact Nat.le_of_lt (atL_lt l h1 hj)
  · obtain rfl : i = j := by omega
    exact Nat.le_refl _
/-- the character that has a place -/
theorem of_is {l : Bs} {c m : Nat} (hm : m < countN l) (h1 : atN l m ≤ c) (h2 : c < atN l (m + 1)) : ofT (tk l) c = m := by
  have hc : c < l.length := by have := (cut_at l (m + 1) hm).1; omega
  obtain ⟨n, hn, e, a1, a2, _⟩ := of_find l c hc
  rw [e]
  rcases Nat.lt_or_ge n m with h | h
  · have := atL_le l (show n + 1 ≤ m by omega) (by omega); omega
  · rcases Nat.lt_or_ge m n with h3 | h3
    · have := atL_le l (show m + 1 ≤ n by omega) (by omega); omega
    · omega
/-- a border is where a character begins -/
theorem border_at {l : Bs} {p : Nat} (hp : Border l p) : ∃ m, m ≤ countN l ∧ atN l m = p ∧ ofT (tk l) p = m := by
  obtain ⟨done, h⟩ := hp
  refine ⟨done.length, h.le_count, h.at', ?_⟩
  have := (of_at l done.length h.le_count).2
  rwa [h.at'] at this
theorem seg_drop (l : Bs) (m : Nat) (hm : m ≤ countN l) : tk (l.drop (atN l m)) = (tk l).drop m := by
  have h := (cut_at l m hm).2.1
  have h2 := congrArg (List.drop m) h
  rw [List.drop_append_of_le_length (by rw [List.length_take]; unfold countN at hm; omega), List.drop_take_self, List.nil_append] at h2
  exact h2.symm
theorem seg_at (l : Bs) (m k : Nat) (hm : m ≤ countN l) : atN l m + atN (l.drop (atN l m)) k = atN l (m + k) := by
  unfold atN
  rw [show wsum ((tk l).take m) = atN l m from rfl, seg_drop l m hm, List.take_add, wsum_append]
  rfl
/-- the characters of a piece between two borders -/
theorem seg_tk (l : Bs) (a b : Nat) (hab : a ≤ b) (hb : b ≤ countN l) : tk ((l.drop (atN l a)).take (atN l b - atN l a)) = ((tk l).drop a).take (b - a) := by
  have h1 := seg_drop l a (by omega)
  have h2 := seg_at l a (b - a) (by omega)
  rw [show a + (b - a) = b by omega] at h2
  have hc : b - a ≤ countN (l.drop (atN l a)) := by unfold countN; rw [h1, List.length_drop]; unfold countN at hb; omega
  have h3 := took_at (l.drop (atN l a)) (b - a) hc
  rw [show atN (l.drop (atN l a)) (b - a) = atN l b - atN l a by omega, h1] at h3
  exact h3
theorem seg_count (l : Bs) (a b : Nat) (hab : a ≤ b) (hb : b ≤ countN l) : countN ((l.drop (atN l a)).take (atN l b - atN l a)) = b - a := by
  unfold countN
  rw [seg_tk l a b hab hb, List.length_take, List.length_drop]
  unfold countN at hb
  omega
theorem seg_in (l : Bs) (a b k : Nat) (hab : a ≤ b) (hb : b ≤ countN l) (hk : k ≤ b - a) : atN l a + atN ((l.drop (atN l a)).take (atN l b - atN l a)) k = atN l (a + k) := by
  rw [← seg_at l a k (by omega)]
  congr 1
  unfold atN
  rw [show wsum ((tk l).take a) = atN l a from rfl, show wsum ((tk l).take b) = atN l b from rfl, seg_tk l a b hab hb, seg_drop l a (by omega), List.take_take, Nat.min_eq_left hk]

/-! ### The line of a place -/
/-- k is the number of the line that has the place c -/
def IsLn (l : Bs) (c k : Nat) : Prop := k < lnN l ∧ lnA l k ≤ c ∧ (k + 1 < lnN l → c < lnA l (k + 1))
def lnTo (l : Bs) (c : Nat) : Nat → Nat
  | 0 => 0
  | k + 1 => if lnA l (k + 1) ≤ c then k + 1 else lnTo l c k
def lnOf (l : Bs) (c : Nat) : Nat := lnTo l c (lnN l - 1)
theorem lnTo_is (l : Bs) (c : Nat) : ∀ k, k < lnN l → lnTo l c k ≤ k ∧ lnA l (lnTo l c k) ≤ c ∧ ∀ j, lnTo l c k < j → j ≤ k → c < lnA l j
  | 0, _ => ⟨Nat.le_refl _, by unfold lnTo; rw [lnA_zero]; omega, fun j h1 h2 => by unfold lnTo at h1; omega⟩
  | k + 1, hk => by
    unfold lnTo
    by_cases h : lnA l (k + 1) ≤ c
    · rw [if_pos h]; exact ⟨Nat.le_refl _, h, fun j h1 h2 => by omega⟩
    · rw [if_neg h]
      obtain ⟨h1, h2, h3⟩ := lnTo_is l c k (by omega)
      refine ⟨by omega, h2, fun j h4 h5 => ?_⟩
      by_cases e : j = k + 1
      · rw [e]; omega
      · exact h3 j h4 (by omega)
theorem lnOf_is (l : Bs) (c : Nat) : IsLn l c (lnOf l c) := by
  have hp := lnN_pos l
  obtain ⟨h1, h2, h3⟩ := lnTo_is l c (lnN l - 1) (by omega)
  unfold lnOf
  exact ⟨by omega, h2, fun h => h3 _ (Nat.lt_succ_self _) (by omega)⟩
theorem isLn_unique {l : Bs} {c j k : Nat} (h : IsLn l c j) (g : IsLn l c k) : j = k := by
  obtain ⟨a1, a2, a3⟩ := h
  obtain ⟨b1, b2, b3⟩ := g
  rcases Nat.lt_or_ge j k with h1 | h1
  · have h2 := a3 (by omega)
    by_cases e : j + 1 = k
    · rw [e] at h2; omega
    · have := (lnA_lt l (show j + 1 < k by omega) b1).2; omega
  · rcases Nat.lt_or_ge k j with h3 | h3
    · have h2 := b3 (by omega)
      by_cases e : k + 1 = j
      · rw [e] at h2; omega
      · have := (lnA_lt l (show k + 1 < j by omega) a1).2; omega
    · omega
theorem lnOf_eq {l : Bs} {c k : Nat} (h : IsLn l c k) : lnOf l c = k := isLn_unique (lnOf_is l c) h
/-- the column of a place -/
def colOf (l : Bs) (c : Nat) : Nat := ofT (tk l) c - ofT (tk l) (lnA l (lnOf l c))

/-- is a line passed on the way to a place? -/
def Skip (l : Bs) (c k : Nat) : Prop := (lnX' l k).2.2 ≠ 0 ∧ (lnX' l k).2.1 + (lnX' l k).2.2 ≤ c
where lnX' (l : Bs) (k : Nat) : Nat × Nat × Nat := (linesL l)[k]?.getD (0, 0, 0)
theorem skip_iff {l : Bs} {c k : Nat} : Skip l c k ↔ lnE l k ≠ 0 ∧ lnB l k + lnE l k ≤ c := Iff.rfl
theorem skip_line {l : Bs} {c k : Nat} (hk : k < lnN l) (h1 : ∀ j, j < k → Skip l c j) (h2 : ¬ Skip l c k) : IsLn l c k := by
  rw [skip_iff] at h2
  refine ⟨hk, ?_, fun h => ?_⟩
  · cases k with
    | zero => rw [lnA_zero]; omega
    | succ k =>
      have h3 := skip_iff.1 (h1 k (by omega))
      have h4 := (ln_get l k (by omega)).2.2.2.2.2.2 hk
      omega
  · have h4 := (ln_get l k (by omega)).2.2.2.2.2.2 h
    omega
theorem skip_not_all (l : Bs) (c : Nat) : ¬ ∀ j, j < lnN l → Skip l c j := by
  intro h
  have hp := lnN_pos l
  have h1 := skip_iff.1 (h (lnN l - 1) (by omega))
  have h2 := (ln_get l (lnN l - 1) (by omega)).2.2.2.2.2.1 (by omega)
  omega

/-- so many characters of a piece begin at or ahead of a place -/
def CntIs (S : Bs) (f c j : Nat) : Prop := j ≤ countN S ∧ (j = 0 ∨ f + atN S (j - 1) ≤ c) ∧ (j = countN S ∨ c < f + atN S j)
/-- the piece of a text from a place on up to another -/
def pieceL (l : Bs) (f t : Nat) : Bs := (l.drop f).take (t - f)
def decN (l : Bs) (c : Nat) : Nat := if c < l.length then 1 else 0
/-- The column, as the program counts it. -/
theorem col_cnt {l : Bs} {c k j : Nat} (hc : c ≤ l.length) (hk : IsLn l c k) (hj : CntIs (pieceL l (lnA l k) (lnB l k + lnE l k)) (lnA l k) c j) : (j : Int) - (decN l c : Nat) = (colOf l c : Nat) := by
  obtain ⟨h1, h2, h3⟩ := hk
  obtain ⟨g1, g2, g3, g4, g5, g6, g7⟩ := ln_get l k h1
  obtain ⟨a, ha, hA, hoA⟩ := border_at (lnA_border l k h1)
  have hBb : Border l (lnB l k + lnE l k) := by
    by_cases e : k + 1 < lnN l
    · rw [← (g7 e).2]; exact lnA_border l (k + 1) e
    · have := g6 (by omega)
      rw [this.1, this.2]
      exact ⟨_, Cut.full l⟩
  obtain ⟨b, hb, hB, hoB⟩ := border_at hBb
  have hab : a ≤ b := by
    rcases Nat.lt_or_ge b a with h | h
    · have := atL_lt l h ha; omega
    · exact h
  unfold colOf
  rw [lnOf_eq ⟨h1, h2, h3⟩, hoA]
  obtain ⟨j1, j2, j3⟩ := hj
  unfold pieceL at j1 j2 j3
  rw [← hA, ← hB] at j1 j2 j3
  rw [seg_count l a b hab hb] at j1 j3
  have hs := fun k hk => seg_in l a b k hab hb hk
  have e2 : j = 0 ∨ atN l (a + (j - 1)) ≤ c := by
    rcases j2 with h | h
    · exact .inl h
    · right; rw [hs (j - 1) (by omega)] at h; exact h
  have e3 : j = b - a ∨ c < atN l (a + j) := by
    rcases j3 with h | h
    · exact .inl h
    · right; rw [hs j (by omega)] at h; exact h
  unfold decN
  by_cases hcl : c < l.length
  · rw [if_pos hcl]
    have hcB : j = b - a → c < atN l b := by
      intro _
      rw [hB]
      by_cases e : k + 1 < lnN l
      · rw [← (g7 e).2]; exact h3 e
      · have := g6 (by omega); omega
    have hj1 : 1 ≤ j := by
      rcases Nat.eq_zero_or_pos j with h | h
      · subst h
        rcases e3 with e | e
        · have := hcB e
          have hba : b = a := by omega
          rw [hba] at this
          omega
        · rw [Nat.add_zero] at e; omega
      · exact h
    have hlt : c < atN l (a + j) := by
      rcases e3 with e | e
      · have := hcB e
        rw [show a + j = b by omega]; exact this
      · exact e
    have := of_is (l := l) (c := c) (m := a + (j - 1)) (by omega) (by rcases e2 with e | e; omega; exact e) (by rw [show a + (j - 1) + 1 = a + j by omega]; exact hlt)
    rw [this]
    omega
  · rw [if_neg hcl]
    obtain rfl : c = l.length := by omega
    have hlast : ¬ k + 1 < lnN l := fun e => by have := h3 e; have := lnA_le l (k + 1) e; omega
    have := g6 (by omega)
    have hbN : b = countN l := by
      rcases Nat.lt_or_ge b (countN l) with h | h
      · have := atL_lt l h (Nat.le_refl _)
        rw [atN_full] at this
        omega
      · omega
    rw [ofT_end]
    rcases e3 with e | e
    · omega
    · have := (cut_at l (a + j) (by omega)).1; omega
end Go.Proofs.YtfoppbignompkaaDoor
