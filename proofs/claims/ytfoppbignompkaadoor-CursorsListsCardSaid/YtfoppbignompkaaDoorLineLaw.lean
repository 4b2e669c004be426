/-
  Line ends and lines: plain facts about bytes (no program in sight).
-/
import Derived.Test.YtfoppbignompkaaDoorOrder
import Derived.Test.YtfoppbignompkaaDoorSeam
namespace Go.Proofs.YtfoppbignompkaaDoor
open Go.RowKit

theorem by_len {l : Bs} {i : Nat} (h : by' l i ≠ 0) : i < l.length := by
  rcases Nat.lt_or_ge i l.length with h1 | h1
  · exact h1
  · exfalso
    apply h
    unfold by'
    rw [List.getD_eq_getElem?_getD, List.getElem?_eq_none h1]
    rfl

/-- how wide the line end is that begins at a place; 0: none does -/
def endN (l : Bs) (i : Nat) : Nat :=
  if by' l i = 10 then (if i ≠ 0 ∧ by' l (i - 1) = 13 then 0 else 1)
  else if by' l i = 13 then (if by' l (i + 1) = 10 then 2 else 1)
  else if by' l i = 194 ∧ by' l (i + 1) = 133 then 2
  else if by' l i = 226 ∧ by' l (i + 1) = 128 ∧ (by' l (i + 2) = 168 ∨ by' l (i + 2) = 169) then 3 else 0
def endZ (l : Bs) (c : Int) : Nat := if c < 0 then 0 else endN l c.toNat

theorem end_cases (l : Bs) (i : Nat) :
    (by' l i = 10 ∧ (i ≠ 0 ∧ by' l (i - 1) = 13) ∧ endN l i = 0) ∨ (by' l i = 10 ∧ ¬ (i ≠ 0 ∧ by' l (i - 1) = 13) ∧ endN l i = 1) ∨
    (by' l i = 13 ∧ by' l (i + 1) = 10 ∧ endN l i = 2) ∨ (by' l i = 13 ∧ by' l (i + 1) ≠ 10 ∧ endN l i = 1) ∨
    (by' l i = 194 ∧ by' l (i + 1) = 133 ∧ endN l i = 2) ∨
    (by' l i = 226 ∧ by' l (i + 1) = 128 ∧ (by' l (i + 2) = 168 ∨ by' l (i + 2) = 169) ∧ endN l i = 3) ∨
    (by' l i ≠ 10 ∧ by' l i ≠ 13 ∧ ¬ (by' l i = 194 ∧ by' l (i + 1) = 133) ∧ ¬ (by' l i = 226 ∧ by' l (i + 1) = 128 ∧ (by' l (i + 2) = 168 ∨ by' l (i + 2) = 169)) ∧ endN l i = 0) := by
  unfold endN
  by_cases a : by' l i = 10
  · rw [if_pos a]
    by_cases b : i ≠ 0 ∧ by' l (i - 1) = 13
    · rw [if_pos b]; exact .inl ⟨a, b, rfl⟩
    · rw [if_neg b]; exact .inr (.inl ⟨a, b, rfl⟩)
  · rw [if_neg a]
    by_cases b : by' l i = 13
    · rw [if_pos b]
      by_cases c : by' l (i + 1) = 10
      · rw [if_pos c]; exact .inr (.inr (.inl ⟨b, c, rfl⟩))
      · rw [if_neg c]; exact .inr (.inr (.inr (.inl ⟨b, c, rfl⟩)))
    · rw [if_neg b]
      by_cases c : by' l i = 194 ∧ by' l (i + 1) = 133
      · rw [if_pos c]; exact .inr (.inr (.inr (.inr (.inl ⟨c.1, c.2, rfl⟩))))
      · rw [if_neg c]
        by_cases d : by' l i = 226 ∧ by' l (i + 1) = 128 ∧ (by' l (i + 2) = 168 ∨ by' l (i + 2) = 169)
        · rw [if_pos d]; exact .inr (.inr (.inr (.inr (.inr (.inl ⟨d.1, d.2.1, d.2.2, rfl⟩)))))
        · rw [if_neg d]; exact .inr (.inr (.inr (.inr (.inr (.inr ⟨a, b, c, d, rfl⟩)))))

theorem end_le (l : Bs) (i : Nat) : endN l i ≤ 3 := by
  rcases end_cases l i with h | h | h | h | h | h | h <;> omega
theorem end_lt {l : Bs} {i : Nat} (h : endN l i ≠ 0) : i < l.length := by
  apply by_len
  rcases end_cases l i with h1 | h1 | h1 | h1 | h1 | h1 | h1 <;> omega
theorem end_fits {l : Bs} {i : Nat} (h : endN l i ≠ 0) : i + endN l i ≤ l.length := by
  have h0 := end_lt h
  rcases end_cases l i with h1 | h1 | h1 | h1 | h1 | h1 | h1
  · omega
  · omega
  · have := by_len (l := l) (i := i + 1) (by omega); omega
  · omega
  · have := by_len (l := l) (i := i + 1) (by omega); omega
  · have := by_len (l := l) (i := i + 2) (by omega); omega
  · omega
theorem end_out {l : Bs} {i : Nat} (h : l.length ≤ i) : endN l i = 0 := by
  rcases Nat.eq_zero_or_pos (endN l i) with e | e
  · exact e
  · have := end_lt (l := l) (i := i) (by omega); omega

/-- A line end stands between characters. -/
theorem end_border {l : Bs} {i : Nat} (h : endN l i ≠ 0) : Border l i := by
  refine border_nofol l i (end_lt h) ?_
  unfold Fol
  rcases end_cases l i with h1 | h1 | h1 | h1 | h1 | h1 | h1 <;> omega

/-- What the decoding says of a line end of more bytes. -/
theorem end_dec (l : Bs) (i : Nat) (h1 : by' l i ≠ 10) (h2 : by' l i ≠ 13) (r n : Nat) (hd : Lib.decodeL (l.drop i) = (r, n)) :
    ((r = 133 ∨ r = 8232 ∨ r = 8233) ∧ endN l i = n ∧ n ≠ 0) ∨ (r ≠ 133 ∧ r ≠ 8232 ∧ r ≠ 8233 ∧ endN l i = 0) := by
  have e0 := by_drop l i 0
  have e1 := by_drop l i 1
  have e2 := by_drop l i 2
  rw [Nat.add_zero] at e0
  have hc := end_cases l i
  have hl2 : (l.drop i).length = l.length - i := List.length_drop
  have hn1 : by' l (i + 1) ≠ 0 → i + 1 < l.length := by_len
  have hn2 : by' l (i + 2) ≠ 0 → i + 2 < l.length := by_len
  rcases dec_cases (l.drop i) with ⟨a, h⟩ | ⟨a, h⟩ | ⟨a, h⟩ | ⟨a, h⟩ | ⟨a0, a2, a3, a4, h⟩ <;> rw [h] at hd <;> injection hd with hd1 hd2 <;> subst hd1 <;> subst hd2
  · rw [e0] at a ⊢; right; omega
  · unfold Ok2 at a
    rw [e0, e1] at a ⊢
    unfold n2
    omega
  · unfold Ok3 n3 at a
    rw [e0, e1, e2] at a ⊢
    unfold n3
    omega
  · unfold Ok4 at a
    obtain ⟨b1, b2, b3, b4, b5, b6, b7, b8, b9, b10, b11⟩ := a
    rw [e0] at b1 b2
    right
    omega
  · unfold Ok2 at a2
    unfold Ok3 n3 at a3
    rw [e0, e1] at a2
    rw [e0, e1, e2] at a3
    right
    omega
theorem end_right {r n : Nat} (h : r = 133 ∨ r = 8232 ∨ r = 8233) : rightR (r : Int) n = true := rightR_ne (by omega) n

/-- Behind a line end a character begins. -/
theorem end_border' {l : Bs} {i : Nat} (h : endN l i ≠ 0) : Border l (i + endN l i) := by
  obtain ⟨done, hc⟩ := end_border h
  have hlt := end_lt h
  have one : ∀ j done, Cut l done j → j < l.length → by' l j < 128 → Border l (j + 1) := by
    intro j done hc hj hb
    have hs := hc.step hj
    have hd : (Lib.decodeL (l.drop j)).2 = 1 := by
      have e0 := by_drop l j 0
      rw [Nat.add_zero] at e0
      rcases dec_cases (l.drop j) with ⟨a, h⟩ | ⟨a, h⟩ | ⟨a, h⟩ | ⟨a, h⟩ | ⟨a0, a2, a3, a4, h⟩ <;> rw [h]
      · unfold Ok2 at a; omega
      · unfold Ok3 at a; omega
      · unfold Ok4 at a; omega
    rw [hd] at hs
    exact ⟨_, hs⟩
  by_cases h1 : by' l i = 10
  · have e : endN l i = 1 := by rcases end_cases l i with h1 | h1 | h1 | h1 | h1 | h1 | h1 <;> omega
    rw [e]
    exact one i done hc hlt (by omega)
  · by_cases h2 : by' l i = 13
    · obtain ⟨d2, hc2⟩ := one i done hc hlt (by omega)
      by_cases h3 : by' l (i + 1) = 10
      · have e : endN l i = 2 := by rcases end_cases l i with h1 | h1 | h1 | h1 | h1 | h1 | h1 <;> omega
        rw [e]
        exact one (i + 1) d2 hc2 (by_len (by omega)) (by omega)
      · have e : endN l i = 1 := by rcases end_cases l i with h1 | h1 | h1 | h1 | h1 | h1 | h1 <;> omega
        rw [e]
        exact ⟨_, hc2⟩
    · rcases end_dec l i h1 h2 _ _ rfl with ⟨_, e, _⟩ | ⟨_, _, _, e⟩
      · rw [e]; exact ⟨_, hc.step hlt⟩
      · omega

/-! ### Lines -/
/-- the lines from a place on: where the line began, where the walk stands -/
def lnF (l : Bs) : Nat → Nat → Nat → List (Nat × Nat × Nat)
  | 0, f, _ => [(f, l.length, 0)]
  | k + 1, f, i => if l.length ≤ i then [(f, l.length, 0)] else if endN l i = 0 then lnF l k f (i + 1) else (f, i, endN l i) :: lnF l k (i + endN l i) (i + endN l i)
def lnRest (l : Bs) (f i : Nat) : List (Nat × Nat × Nat) := lnF l (l.length - i) f i
def linesL (l : Bs) : List (Nat × Nat × Nat) := lnRest l 0 0

theorem lnF_fuel (l : Bs) : ∀ (k g f i : Nat), l.length - i ≤ k → l.length - i ≤ g → lnF l k f i = lnF l g f i
  | 0, 0, _, _, _, _ => rfl
  | 0, g + 1, f, i, h, _ => by
    unfold lnF
    rw [if_pos (by omega)]
  | k + 1, 0, f, i, _, h => by
    unfold lnF
    rw [if_pos (by omega)]
  | k + 1, g + 1, f, i, h1, h2 => by
    unfold lnF
    by_cases h : l.length ≤ i
    · rw [if_pos h, if_pos h]
    · rw [if_neg h, if_neg h]
      by_cases e : endN l i = 0
      · rw [if_pos e, if_pos e, lnF_fuel l k g f (i + 1) (by omega) (by omega)]
      · rw [if_neg e, if_neg e, lnF_fuel l k g _ _ (by omega) (by omega)]
theorem ln_end {l : Bs} {f i : Nat} (h : l.length ≤ i) : lnRest l f i = [(f, l.length, 0)] := by
  unfold lnRest
  rw [show l.length - i = 0 by omega]
  rfl
theorem ln_no {l : Bs} {f i : Nat} (h : i < l.length) (e : endN l i = 0) : lnRest l f i = lnRest l f (i + 1) := by
  unfold lnRest
  rw [show l.length - i = (l.length - (i + 1)) + 1 by omega]
  conv => lhs; unfold lnF
  rw [if_neg (by omega), if_pos e]
theorem ln_yes {l : Bs} {f i : Nat} (e : endN l i ≠ 0) : lnRest l f i = (f, i, endN l i) :: lnRest l (i + endN l i) (i + endN l i) := by
  have h := end_lt e
  unfold lnRest
  rw [show l.length - i = (l.length - (i + 1)) + 1 by omega]
  conv => lhs; unfold lnF
  rw [if_neg (by omega), if_neg e, lnF_fuel l (l.length - (i + 1)) (l.length - (i + endN l i)) _ _ (by omega) (by omega)]

/-- what lines are: one behind the other, each but the last one ended by a line end, none within one -/
inductive Lns (l : Bs) : Nat → List (Nat × Nat × Nat) → Prop
  | last (f : Nat) (hf : f ≤ l.length) (hn : ∀ j, f ≤ j → endN l j = 0) : Lns l f [(f, l.length, 0)]
  | more (f t n : Nat) (L : List (Nat × Nat × Nat)) (hf : f ≤ t) (he : endN l t = n) (h0 : n ≠ 0) (hn : ∀ j, f ≤ j → j < t → endN l j = 0) (h : Lns l (t + n) L) : Lns l f ((f, t, n) :: L)
theorem lnF_ok (l : Bs) : ∀ (k f i : Nat), l.length - i ≤ k → f ≤ i → i ≤ l.length → (∀ j, f ≤ j → j < i → endN l j = 0) → Lns l f (lnRest l f i)
  | 0, f, i, hk, hf, hi, hn => by
    rw [ln_end (by omega)]
    refine .last f (by omega) fun j hj => ?_
    by_cases h : j < i
    · exact hn j hj h
    · exact end_out (by omega)
  | k + 1, f, i, hk, hf, hi, hn => by
    by_cases h : l.length ≤ i
    · rw [ln_end h]
      refine .last f (by omega) fun j hj => ?_
      by_cases h : j < i
      · exact hn j hj h
      · exact end_out (by omega)
    · by_cases e : endN l i = 0
      · rw [ln_no (by omega) e]
        refine lnF_ok l k f (i + 1) (by omega) (by omega) (by omega) fun j hj h2 => ?_
        by_cases h3 : j = i
        · rw [h3]; exact e
        · exact hn j hj (by omega)
      · rw [ln_yes e]
        have hfit := end_fits e
        exact .more f i _ _ hf rfl e hn (lnF_ok l k _ _ (by omega) (Nat.le_refl _) hfit (fun j h1 h2 => by omega))
theorem lines_ok (l : Bs) : Lns l 0 (linesL l) := lnF_ok l _ 0 0 (Nat.le_refl _) (Nat.le_refl _) (Nat.zero_le _) (fun j h1 h2 => by omega)

theorem Lns.pos {l : Bs} {f : Nat} {L : List (Nat × Nat × Nat)} (h : Lns l f L) : 1 ≤ L.length := by cases h <;> simp
theorem Lns.le {l : Bs} {f : Nat} {L : List (Nat × Nat × Nat)} (h : Lns l f L) : f ≤ l.length ∧ L.length ≤ l.length - f + 1 := by
  induction h with
  | last f hf hn => exact ⟨hf, by simp⟩
  | more f t n L hf he h0 hn h ih =>
    subst he
    have := end_fits h0
    refine ⟨by omega, ?_⟩
    simp only [List.length_cons]
    omega
theorem Lns.head {l : Bs} {f : Nat} {L : List (Nat × Nat × Nat)} (h : Lns l f L) : (L[0]?.getD (0, 0, 0)).1 = f := by cases h <;> rfl
theorem Lns.get {l : Bs} {f : Nat} {L : List (Nat × Nat × Nat)} (h : Lns l f L) (k : Nat) (hk : k < L.length) :
    f ≤ (L[k]?.getD (0, 0, 0)).1 ∧ (L[k]?.getD (0, 0, 0)).1 ≤ (L[k]?.getD (0, 0, 0)).2.1 ∧ (L[k]?.getD (0, 0, 0)).2.1 + (L[k]?.getD (0, 0, 0)).2.2 ≤ l.length ∧ (L[k]?.getD (0, 0, 0)).2.2 ≤ 3 ∧
    (L[k]?.getD (0, 0, 0)).2.2 = endN l (L[k]?.getD (0, 0, 0)).2.1 ∧
    (∀ j, (L[k]?.getD (0, 0, 0)).1 ≤ j → j < (L[k]?.getD (0, 0, 0)).2.1 → endN l j = 0) ∧
    (k + 1 = L.length → (L[k]?.getD (0, 0, 0)).2.1 = l.length ∧ (L[k]?.getD (0, 0, 0)).2.2 = 0) ∧
    (k + 1 < L.length → (L[k]?.getD (0, 0, 0)).2.2 ≠ 0 ∧ (L[k + 1]?.getD (0, 0, 0)).1 = (L[k]?.getD (0, 0, 0)).2.1 + (L[k]?.getD (0, 0, 0)).2.2) := by
  induction h generalizing k with
  | last f hf hn =>
    obtain rfl : k = 0 := by simpa using hk
    exact ⟨Nat.le_refl _, hf, Nat.le_refl _, by simp, (end_out (Nat.le_refl _)).symm, fun j h1 _ => hn j h1, fun _ => ⟨rfl, rfl⟩, fun h => by simp at h⟩
  | more f t n L hf he h0 hn h ih =>
    subst he
    cases k with
    | zero =>
      refine ⟨Nat.le_refl _, hf, end_fits h0, end_le l t, rfl, hn, fun e => ?_, fun _ => ⟨h0, ?_⟩⟩
      · exfalso
        have := h.pos
        simp only [List.length_cons] at e
        omega
      · rw [List.getElem?_cons_succ]; exact h.head
    | succ k =>
      simp only [List.length_cons] at hk
      have := ih k (by omega)
      simp only [List.getElem?_cons_succ, List.length_cons]
      refine ⟨by omega, this.2.1, this.2.2.1, this.2.2.2.1, this.2.2.2.2.1, this.2.2.2.2.2.1, fun e => this.2.2.2.2.2.2.1 (by omega), fun e => this.2.2.2.2.2.2.2 (by omega)⟩

/-- the line number k: where it begins, where it ends, how wide its end is -/
def lnA (l : Bs) (k : Nat) : Nat := ((linesL l)[k]?.getD (0, 0, 0)).1
def lnB (l : Bs) (k : Nat) : Nat := ((linesL l)[k]?.getD (0, 0, 0)).2.1
def lnE (l : Bs) (k : Nat) : Nat := ((linesL l)[k]?.getD (0, 0, 0)).2.2
def lnN (l : Bs) : Nat := (linesL l).length
theorem lnN_pos (l : Bs) : 1 ≤ lnN l := (lines_ok l).pos
theorem lnN_le (l : Bs) : lnN l ≤ l.length + 1 := (lines_ok l).le.2
theorem lnA_zero (l : Bs) : lnA l 0 = 0 := (lines_ok l).head
theorem ln_get (l : Bs) (k : Nat) (hk : k < lnN l) :
    lnA l k ≤ lnB l k ∧ lnB l k + lnE l k ≤ l.length ∧ lnE l k ≤ 3 ∧ lnE l k = endN l (lnB l k) ∧ (∀ j, lnA l k ≤ j → j < lnB l k → endN l j = 0) ∧
    (k + 1 = lnN l → lnB l k = l.length ∧ lnE l k = 0) ∧ (k + 1 < lnN l → lnE l k ≠ 0 ∧ lnA l (k + 1) = lnB l k + lnE l k) := ((lines_ok l).get k hk).2
theorem ln_eta (l : Bs) (k : Nat) (hk : k < lnN l) : (linesL l)[k]? = some (lnA l k, lnB l k, lnE l k) := by
  unfold lnA lnB lnE
  rw [List.getElem?_eq_getElem hk]
  rfl
theorem lnA_lt (l : Bs) {j k : Nat} (h : j < k) (hk : k < lnN l) : lnB l j + lnE l j ≤ lnA l k ∧ lnA l j < lnA l k := by
  induction k with
  | zero => omega
  | succ k ih =>
    obtain ⟨h1, h2, _, _, _, _, h3⟩ := ln_get l k (by omega)
    obtain ⟨h4, h5⟩ := h3 hk
    by_cases e : j = k
    · subst e; omega
    · have := ih (by omega) (by omega); omega
theorem lnA_border (l : Bs) (k : Nat) (hk : k < lnN l) : Border l (lnA l k) := by
  cases k with
  | zero => rw [lnA_zero]; exact Border.zero l
  | succ k =>
    obtain ⟨h1, h2, _, h4, _, _, h3⟩ := ln_get l k (by omega)
    obtain ⟨h5, h6⟩ := h3 hk
    rw [h6, h4]
    exact end_border' (by omega)
theorem lnA_le (l : Bs) (k : Nat) (hk : k < lnN l) : lnA l k ≤ l.length := by
  have := ln_get l k hk; omega
/-- the line that has a place -/
theorem ln_has (l : Bs) (c : Nat) : ∃ k, k < lnN l ∧ lnA l k ≤ c ∧ (k + 1 = lnN l ∨ (k + 1 < lnN l ∧ c < lnA l (k + 1))) := by
  have : ∀ m, m < lnN l → lnA l m ≤ c → ∃ k, k < lnN l ∧ lnA l k ≤ c ∧ (k + 1 = lnN l ∨ (k + 1 < lnN l ∧ c < lnA l (k + 1))) := by
    intro m hm
    obtain ⟨d, hd⟩ : ∃ d, lnN l - m = d := ⟨_, rfl⟩
    induction d generalizing m with
    | zero => omega
    | succ d ih =>
      intro hle
      by_cases h1 : m + 1 = lnN l
      · exact ⟨m, hm, hle, .inl h1⟩
      · by_cases h2 : lnA l (m + 1) ≤ c
        · exact ih (m + 1) (by omega) (by omega) h2
        · exact ⟨m, hm, hle, .inr ⟨by omega, by omega⟩⟩
  exact this 0 (lnN_pos l) (by rw [lnA_zero]; omega)
end Go.Proofs.YtfoppbignompkaaDoor
