/-
  ApartTexts over two lists of texts that lie apart: its contract.
-/
import Derived.Test.YticonolnagcakaaDoorVwA
import Derived.WalkMore
import Derived.Deep.AppendLies
import Derived.Deep.RegionLaw
import Derived.Deep.RegionHeld3
import Derived.BigQuiet
import Derived.OwnWalkIn
import Derived.Sort.QuietIn
import Derived.Deep.RegionHeldLaw
import Derived.Test.YticonolnagcakaaDoorShelf
import Derived.Laws.OwnMore
import Derived.Deep.QuietTactic
namespace Go.Proofs.YticonolnagcakaaDoor
open Go.RowKit

theorem by_len {l : Bs} {i : Nat} (h : by' l i ≠ 0) : i < l.length := by
  rcases Nat.lt_or_ge i l.length with h1 | h1
  · exact h1
  · exfalso
    apply h
    unfold by'
    rw [List.getD_eq_getElem?_getD, List.getElem?_eq_none h1]
    rfl

/-- how wide the line end is that begins at a place; 0: none does -/
def endN (l : Bs) (i : Nat) : Nat :=
  if by' l i = 10 then (if i ≠ 0 ∧ by' l (i - 1) = 13 then 0 else 1)
  else if by' l i = 13 then (if by' l (i + 1) = 10 then 2 else 1)
  else if by' l i = 194 ∧ by' l (i + 1) = 133 then 2
  else if by' l i = 226 ∧ by' l (i + 1) = 128 ∧ (by' l (i + 2) = 168 ∨ by' l (i + 2) = 169) then 3 else 0
def endZ (l : Bs) (c : Int) : Nat := if c < 0 then 0 else endN l c.toNat

theorem end_cases (l : Bs) (i : Nat) :
    (by' l i = 10 ∧ (i ≠ 0 ∧ by' l (i - 1) = 13) ∧ endN l i = 0) ∨ (by' l i = 10 ∧ ¬ (i ≠ 0 ∧ by' l (i - 1) = 13) ∧ endN l i = 1) ∨
    (by' l i = 13 ∧ by' l (i + 1) = 10 ∧ endN l i = 2) ∨ (by' l i = 13 ∧ by' l (i + 1) ≠ 10 ∧ endN l i = 1) ∨
    (by' l i = 194 ∧ by' l (i + 1) = 133 ∧ endN l i = 2) ∨
    (by' l i = 226 ∧ by' l (i + 1) = 128 ∧ (by' l (i + 2) = 168 ∨ by' l (i + 2) = 169) ∧ endN l i = 3) ∨
    (by' l i ≠ 10 ∧ by' l i ≠ 13 ∧ ¬ (by' l i = 194 ∧ by' l (i + 1) = 133) ∧ ¬ (by' l i = 226 ∧ by' l (i + 1) = 128 ∧ (by' l (i + 2) = 168 ∨ by' l (i + 2) = 169)) ∧ endN l i = 0) := by
  unfold endN
  by_cases a : by' l i = 10
  · rw [if_pos a]
    by_cases b : i ≠ 0 ∧ by' l (i - 1) = 13
    · rw [if_pos b]; exact .inl ⟨a, b, rfl⟩
    · rw [if_neg b]; exact .inr (.inl ⟨a, b, rfl⟩)
  · rw [if_neg a]
    by_cases b : by' l i = 13
    · rw [if_pos b]
      by_cases c : by' l (i + 1) = 10
      · rw [if_pos c]; exact .inr (.inr (.inl ⟨b, c, rfl⟩))
      · rw [if_neg c]; exact .inr (.inr (.inr (.inl ⟨b, c, rfl⟩)))
    · rw [if_neg b]
      by_cases c : by' l i = 194 ∧ by' l (i + 1) = 133
      · rw [if_pos c]; exact .inr (.inr (.inr (.inr (.inl ⟨c.1, c.2, rfl⟩))))
      · rw [if_neg c]
        by_cases d : by' l i = 226 ∧ by' l (i + 1) = 128 ∧ (by' l (i + 2) = 168 ∨ by' l (i + 2) = 169)
        · rw [if_pos d]; exact .inr (.inr (.inr (.inr (.inr (.inl ⟨d.1, d.2.1, d.2.2, rfl⟩)))))
        · rw [if_neg d]; exact .inr (.inr (.inr (.inr (.inr (.inr ⟨a, b, c, d, rfl⟩)))))

theorem end_le (l : Bs) (i : Nat) : endN l i ≤ 3 := by
  rcases end_cases l i with h | h | h | h | h | h | h <;> omega
theorem end_lt {l : Bs} {i : Nat} (h : endN l i ≠ 0) : i < l.length := by
  apply by_len
  rcases end_cases l i with h1 | h1 | h1 | h1 | h1 | h1 | h1 <;> omega
theorem end_fits {l : Bs} {i : Nat} (h : endN l i ≠ 0) : i + endN l i ≤ l.length := by
  have h0 := end_lt h
  rcases end_cases l i with h1 | h1 | h1 | h1 | h1 | h1 | h1
  · omega
  · omega
  · have := by_len (l := l) (i := i + 1) (by omega); omega
  · omega
  · have := by_len (l := l) (i := i + 1) (by omega); omega
  · have := by_len (l := l) (i := i + 2) (by omega); omega
  · omega
theorem end_out {l : Bs} {i : Nat} (h : l.length ≤ i) : endN l i = 0 := by
  rcases Nat.eq_zero_or_pos (endN l i) with e | e
  · exact e
  · have := end_lt (l := l) (i := i) (by omega); omega

/-- A line end stands between characters. -/
theorem end_border {l : Bs} {i : Nat} (h : endN l i ≠ 0) : Border l i := by
  refine border_nofol l i (end_lt h) ?_
  unfold Fol
  rcases end_cases l i with h1 | h1 | h1 | h1 | h1 | h1 | h1 <;> omega

/-- What the decoding says of a line end of more bytes. -/
theorem end_dec (l : Bs) (i : Nat) (h1 : by' l i ≠ 10) (h2 : by' l i ≠ 13) (r n : Nat) (hd : Lib.decodeL (l.drop i) = (r, n)) :
    ((r = 133 ∨ r = 8232 ∨ r = 8233) ∧ endN l i = n ∧ n ≠ 0) ∨ (r ≠ 133 ∧ r ≠ 8232 ∧ r ≠ 8233 ∧ endN l i = 0) := by
  have e0 := by_drop l i 0
  have e1 := by_drop l i 1
  have e2 := by_drop l i 2
  rw [Nat.add_zero] at e0
  have hc := end_cases l i
  have hl2 : (l.drop i).length = l.length - i := List.length_drop
  have hn1 : by' l (i + 1) ≠ 0 → i + 1 < l.length := by_len
  have hn2 : by' l (i + 2) ≠ 0 → i + 2 < l.length := by_len
  rcases dec_cases (l.drop i) with ⟨a, h⟩ | ⟨a, h⟩ | ⟨a, h⟩ | ⟨a, h⟩ | ⟨a0, a2, a3, a4, h⟩ <;> rw [h] at hd <;> injection hd with hd1 hd2 <;> subst hd1 <;> subst hd2
  · rw [e0] at a ⊢; right; omega
  · unfold Ok2 at a
    rw [e0, e1] at a ⊢
    unfold n2
    omega
  · unfold Ok3 n3 at a
    rw [e0, e1, e2] at a ⊢
    unfold n3
    omega
  · unfold Ok4 at a
    obtain ⟨b1, b2, b3, b4, b5, b6, b7, b8, b9, b10, b11⟩ := a
    rw [e0] at b1 b2
    right
    omega
  · unfold Ok2 at a2
    unfold Ok3 n3 at a3
    rw [e0, e1] at a2
    rw [e0, e1, e2] at a3
    right
    omega
theorem end_right {r n : Nat} (h : r = 133 ∨ r = 8232 ∨ r = 8233) : rightR (r : Int) n = true := rightR_ne (by omega) n

/-- Behind a line end a character begins. -/
theorem end_border' {l : Bs} {i : Nat} (h : endN l i ≠ 0) : Border l (i + endN l i) := by
  obtain ⟨done, hc⟩ := end_border h
  have hlt := end_lt h
  have one : ∀ j done, Cut l done j → j < l.length → by' l j < 128 → Border l (j + 1) := by
    intro j done hc hj hb
    have hs := hc.step hj
    have hd : (Lib.decodeL (l.drop j)).2 = 1 := by
      have e0 := by_drop l j 0
      rw [Nat.add_zero] at e0
      rcases dec_cases (l.drop j) with ⟨a, h⟩ | ⟨a, h⟩ | ⟨a, h⟩ | ⟨a, h⟩ | ⟨a0, a2, a3, a4, h⟩ <;> rw [h]
      · unfold Ok2 at a; omega
      · unfold Ok3 at a; omega
      · unfold Ok4 at a; omega
    rw [hd] at hs
    exact ⟨_, hs⟩
  by_cases h1 : by' l i = 10
  · have e : endN l i = 1 := by rcases end_cases l i with h1 | h1 | h1 | h1 | h1 | h1 | h1 <;> omega
    rw [e]
    exact one i done hc hlt (by omega)
  · by_cases h2 : by' l i = 13
    · obtain ⟨d2, hc2⟩ := one i done hc hlt (by omega)
      by_cases h3 : by' l (i + 1) = 10
      · have e : endN l i = 2 := by rcases end_cases l i with h1 | h1 | h1 | h1 | h1 | h1 | h1 <;> omega
        rw [e]
        exact one (i + 1) d2 hc2 (by_len (by omega)) (by omega)
      · have e : endN l i = 1 := by rcases end_cases l i with h1 | h1 | h1 | h1 | h1 | h1 | h1 <;> omega
        rw [e]
        exact ⟨_, hc2⟩
    · rcases end_dec l i h1 h2 _ _ rfl with ⟨_, e, _⟩ | ⟨_, _, _, e⟩
      · rw [e]; exact ⟨_, hc.step hlt⟩
      · omega

/-! ### Lines -/
/-- the lines from a place on: where the line began, where the walk stands -/
def lnF (l : Bs) : Nat → Nat → Nat → List (Nat × Nat × Nat)
  | 0, f, _ => [(f, l.length, 0)]
  | k + 1, f, i => if l.length ≤ i then [(f, l.length, 0)] else if endN l i = 0 then lnF l k f (i + 1) else (f, i, endN l i) :: lnF l k (i + endN l i) (i + endN l i)
def lnRest (l : Bs) (f i : Nat) : List (Nat × Nat × Nat) := lnF l (l.length - i) f i
def linesL (l : Bs) : List (Nat × Nat × Nat) := lnRest l 0 0

theorem lnF_fuel (l : Bs) : ∀ (k g f i : Nat), l.length - i ≤ k → l.length - i ≤ g → lnF l k f i = lnF l g f i
  | 0, 0, _, _, _, _ => rfl
  | 0, g + 1, f, i, h, _ => by
    unfold lnF
    rw [if_pos (by omega)]
  | k + 1, 0, f, i, _, h => by
    unfold lnF
    rw [if_pos (by omega)]
  | k + 1, g + 1, f, i, h1, h2 => by
    unfold lnF
    by_cases h : l.length ≤ i
    · rw [if_pos h, if_pos h]
    · rw [if_neg h, if_neg h]
      by_cases e : endN l i = 0
      · rw [if_pos e, if_pos e, lnF_fuel l k g f (i + 1) (by omega) (by omega)]
      · rw [if_neg e, if_neg e, lnF_fuel l k g _ _ (by omega) (by omega)]
theorem ln_end {l : Bs} {f i : Nat} (h : l.length ≤ i) : lnRest l f i = [(f, l.length, 0)] := by
  unfold lnRest
  rw [show l.length - i = 0 by omega]
  rfl
theorem ln_no {l : Bs} {f i : Nat} (h : i < l.length) (e : endN l i = 0) : lnRest l f i = lnRest l f (i + 1) := by
  unfold lnRest
  rw [show l.length - i = (l.length - (i + 1)) + 1 by omega]
  conv => lhs; unfold lnF
  rw [if_neg (by omega), if_pos e]
theorem ln_yes {l : Bs} {f i : Nat} (e : endN l i ≠ 0) : lnRest l f i = (f, i, endN l i) :: lnRest l (i + endN l i) (i + endN l i) := by
  have h := end_lt e
  unfold lnRest
  rw [show l.length - i = (l.length - (i + 1)) + 1 by omega]
  conv => lhs; unfold lnF
  rw [if_neg (by omega), if_neg e, lnF_fuel l (l.length - (i + 1)) (l.length - (i + endN l i)) _ _ (by omega) (by omega)]

/-- what lines are: one behind the other, each but the last one ended by a line end, none within one -/
inductive Lns (l : Bs) : Nat → List (Nat × Nat × Nat) → Prop
  | last (f : Nat) (hf : f ≤ l.length) (hn : ∀ j, f ≤ j → endN l j = 0) : Lns l f [(f, l.length, 0)]
  | more (f t n : Nat) (L : List (Nat × Nat × Nat)) (hf : f ≤ t) (he : endN l t = n) (h0 : n ≠ 0) (hn : ∀ j, f ≤ j → j < t → endN l j = 0) (h : Lns l (t + n) L) : Lns l f ((f, t, n) :: L)
theorem lnF_ok (l : Bs) : ∀ (k f i : Nat), l.length - i ≤ k → f ≤ i → i ≤ l.length → (∀ j, f ≤ j → j < i → endN l j = 0) → Lns l f (lnRest l f i)
  | 0, f, i, hk, hf, hi, hn => by
    rw [ln_end (by omega)]
    refine .last f (by omega) fun j hj => ?_
    by_cases h : j < i
    · exact hn j hj h
    · exact end_out (by omega)
  | k + 1, f, i, hk, hf, hi, hn => by
    by_cases h : l.length ≤ i
    · rw [ln_end h]
      refine .last f (by omega) fun j hj => ?_
      by_cases h : j < i
      · exact hn j hj h
      · exact end_out (by omega)
    · by_cases e : endN l i = 0
      · rw [ln_no (by omega) e]
        refine lnF_ok l k f (i + 1) (by omega) (by omega) (by omega) fun j hj h2 => ?_
        by_cases h3 : j = i
        · rw [h3]; exact e
        · exact hn j hj (by omega)
      · rw [ln_yes e]
        have hfit := end_fits e
        exact .more f i _ _ hf rfl e hn (lnF_ok l k _ _ (by omega) (Nat.le_refl _) hfit (fun j h1 h2 => by omega))
theorem lines_ok (l : Bs) : Lns l 0 (linesL l) := lnF_ok l _ 0 0 (Nat.le_refl _) (Nat.le_refl _) (Nat.zero_le _) (fun j h1 h2 => by omega)

theorem Lns.pos {l : Bs} {f : Nat} {L : List (Nat × Nat × Nat)} (h : Lns l f L) : 1 ≤ L.length := by cases h <;> simp
theorem Lns.le {l : Bs} {f : Nat} {L : List (Nat × Nat × Nat)} (h : Lns l f L) : f ≤ l.length ∧ L.length ≤ l.length - f + 1 := by
  induction h with
  | last f hf hn => exact ⟨hf, by simp⟩
  | more f t n L hf he h0 hn h ih =>
    subst he
    have := end_fits h0
    refine ⟨by omega, ?_⟩
    simp only [List.length_cons]
    omega
theorem Lns.head {l : Bs} {f : Nat} {L : List (Nat × Nat × Nat)} (h : Lns l f L) : (L[0]?.getD (0, 0, 0)).1 = f := by cases h <;> rfl
theorem Lns.get {l : Bs} {f : Nat} {L : List (Nat × Nat × Nat)} (h : Lns l f L) (k : Nat) (hk : k < L.length) :
    f ≤ (L[k]?.getD (0, 0, 0)).1 ∧ (L[k]?.getD (0, 0, 0)).1 ≤ (L[k]?.getD (0, 0, 0)).2.1 ∧ (L[k]?.getD (0, 0, 0)).2.1 + (L[k]?.getD (0, 0, 0)).2.2 ≤ l.length ∧ (L[k]?.getD (0, 0, 0)).2.2 ≤ 3 ∧
    (L[k]?.getD (0, 0, 0)).2.2 = endN l (L[k]?.getD (0, 0, 0)).2.1 ∧
    (∀ j, (L[k]?.getD (0, 0, 0)).1 ≤ j → j < (L[k]?.getD (0, 0, 0)).2.1 → endN l j = 0) ∧
    (k + 1 = L.length → (L[k]?.getD (0, 0, 0)).2.1 = l.length ∧ (L[k]?.getD (0, 0, 0)).2.2 = 0) ∧
    (k + 1 < L.length → (L[k]?.getD (0, 0, 0)).2.2 ≠ 0 ∧ (L[k + 1]?.getD (0, 0, 0)).1 = (L[k]?.getD (0, 0, 0)).2.1 + (L[k]?.getD (0, 0, 0)).2.2) := by
  induction h generalizing k with
  | last f hf hn =>
    obtain rfl : k = 0 := by simpa using hk
    exact ⟨Nat.le_refl _, hf, Nat.le_refl _, by simp, (end_out (Nat.le_refl _)).symm, fun j h1 _ => hn j h1, fun _ => ⟨rfl, rfl⟩, fun h => by simp at h⟩
  | more f t n L hf he h0 hn h ih =>
    subst he
    cases k with
    | zero =>
      refine ⟨Nat.le_refl _, hf, end_fits h0, end_le l t, rfl, hn, fun e => ?_, fun _ => ⟨h0, ?_⟩⟩
      · exfalso
        have := h.pos
        simp only [List.length_cons] at e
        omega
      · rw [List.getElem?_cons_succ]; exact h.head
    | succ k =>
      simp only [List.length_cons] at hk
      have := ih k (by omega)
      simp only [List.getElem?_cons_succ, List.length_cons]
      refine ⟨by omega, this.2.1, this.2.2.1, this.2.2.2.1, this.2.2.2.2.1, this.2.2.2.2.2.1, fun e => this.2.2.2.2.2.2.1 (by omega), fun e => this.2.2.2.2.2.2.2 (by omega)⟩

/-- the line number k: where it begins, where it ends, how wide its end is -/
def lnA (l : Bs) (k : Nat) : Nat := ((linesL l)[k]?.getD (0, 0, 0)).1
def lnB (l : Bs) (k : Nat) : Nat := ((linesL l)[k]?.getD (0, 0, 0)).2.1
def lnE (l : Bs) (k : Nat) : Nat := ((linesL l)[k]?.getD (0, 0, 0)).2.2
def lnN (l : Bs) : Nat := (linesL l).length
theorem lnN_pos (l : Bs) : 1 ≤ lnN l := (lines_ok l).pos
theorem lnN_le (l : Bs) : lnN l ≤ l.length + 1 := (lines_ok l).le.2
theorem lnA_zero (l : Bs) : lnA l 0 = 0 := (lines_ok l).head
theorem ln_get (l : Bs) (k : Nat) (hk : k < lnN l) :
    lnA l k ≤ lnB l k ∧ lnB l k + lnE l k ≤ l.length ∧ lnE l k ≤ 3 ∧ lnE l k = endN l (lnB l k) ∧ (∀ j, lnA l k ≤ j → j < lnB l k → endN l j = 0) ∧
    (k + 1 = lnN l → lnB l k = l.length ∧ lnE l k = 0) ∧ (k + 1 < lnN l → lnE l k ≠ 0 ∧ lnA l (k + 1) = lnB l k + lnE l k) := ((lines_ok l).get k hk).2
theorem ln_eta (l : Bs) (k : Nat) (hk : k < lnN l) : (linesL l)[k]? = some (lnA l k, lnB l k, lnE l k) := by
  unfold lnA lnB lnE
  rw [List.getElem?_eq_getElem hk]
  rfl
theorem lnA_lt (l : Bs) {j k : Nat} (h : j < k) (hk : k < lnN l) : lnB l j + lnE l j ≤ lnA l k ∧ lnA l j < lnA l k := by
  induction k with
  | zero => omega
  | succ k ih =>
    obtain ⟨h1, h2, _, _, _, _, h3⟩ := ln_get l k (by omega)
    obtain ⟨h4, h5⟩ := h3 hk
    by_cases e : j = k
    · subst e; omega
    · have := ih (by omega) (by omega); omega
theorem lnA_border (l : Bs) (k : Nat) (hk : k < lnN l) : Border l (lnA l k) := by
  cases k with
  | zero => rw [lnA_zero]; exact Border.zero l
  | succ k =>
    obtain ⟨h1, h2, _, h4, _, _, h3⟩ := ln_get l k (by omega)
    obtain ⟨h5, h6⟩ := h3 hk
    rw [h6, h4]
    exact end_border' (by omega)
theorem lnA_le (l : Bs) (k : Nat) (hk : k < lnN l) : lnA l k ≤ l.length := by
  have := ln_get l k hk; omega
/-- the line that has a place -/
theorem ln_has (l : Bs) (c : Nat) : ∃ k, k < lnN l ∧ lnA l k ≤ c ∧ (k + 1 = lnN l ∨ (k + 1 < lnN l ∧ c < lnA l (k + 1))) := by
  have : ∀ m, m < lnN l → lnA l m ≤ c → ∃ k, k < lnN l ∧ lnA l k ≤ c ∧ (k + 1 = lnN l ∨ (k + 1 < lnN l ∧ c < lnA l (k + 1))) := by
    intro m hm
    obtain ⟨d, hd⟩ : ∃ d, lnN l - m = d := ⟨_, rfl⟩
    induction d generalizing m with
    | zero => omega
    | succ d ih =>
      intro hle
      by_cases h1 : m + 1 = lnN l
      · exact ⟨m, hm, hle, .inl h1⟩
      · by_cases h2 : lnA l (m + 1) ≤ c
        · exact ih (m + 1) (by omega) (by omega) h2
        · exact ⟨m, hm, hle, .inr ⟨by omega, by omega⟩⟩
  exact this 0 (lnN_pos l) (by rw [lnA_zero]; omega)
end Go.Proofs.YticonolnagcakaaDoor

namespace Go.Proofs.YticonolnagcakaaDoor
open Go.RowKit

theorem endZ_nat (l : Bs) (i : Nat) : endZ l (i : Int) = endN l i := by unfold endZ; rw [if_neg (by omega)]; rfl
theorem endZ_out (l : Bs) (c : Int) (h : (l.length : Int) ≤ c) : endZ l c = 0 := by
  unfold endZ
  by_cases h0 : c < 0
  · rw [if_pos h0]
  · rw [if_neg h0]; exact end_out (by omega)
theorem endZ_neg (l : Bs) (c : Int) (h : c < 0) : endZ l c = 0 := if_pos h
/-- is a number none? -/
def nzB (n : Nat) : Bool := n != 0
theorem end_ret {k : Nat} {n : Nat} {b : Bool} (h : k = n) (hb : nzB n = b) : Ending.returned (.tuple #[.int .i64 (n : Nat), .bool b]) = .returned (.tuple #[.int .i64 (k : Nat), .bool (nzB k)]) := by rw [h, hb]

set_option maxHeartbeats 4000000 in
theorem lend_any (s : ByteArray) (hs : s.size ≤ 140737488351232) (c : Int) (w : World) (hT : Tabs w) :
    Calls Tryd.prog 63 #[.string s, .int .i64 c] w fun e w' => e = .returned (.tuple #[.int .i64 (endZ (bs s) c : Nat), .bool (nzB (endZ (bs s) c))]) ∧ Below w.heap.size w w' := by
  have HT := Lib.hid hT
  clear hT
  by_cases h0 : c < 0
  · have HV := Lib.hid (endZ_neg (bs s) c h0)
    go_enter Tryd.func63, Tryd.ntmps63
    go_wp2_with fail
    go_ret2
    exact ⟨end_ret HV.out rfl, Below.refl _ _⟩
  · by_cases h1 : (s.size : Int) ≤ c
    · have HV := Lib.hid (endZ_out (bs s) c (by rw [← size_bs]; exact h1))
      go_enter Tryd.func63, Tryd.ntmps63
      go_wp2_with fail
      go_ret2
      exact ⟨end_ret HV.out rfl, Below.refl _ _⟩
    · obtain ⟨i, rfl⟩ : ∃ i : Nat, c = i := ⟨c.toNat, by omega⟩
      have hi : i < s.size := by omega
      have hi0 : (0 : Int) ≤ (i : Int) := by omega
      have hii : (i : Int) < (s.size : Int) := by omega
      have hd1 : decide (s.size ≤ i) = false := decide_eq_false (by omega)
      rw [endZ_nat]
      have hec := end_cases (bs s) i
      have hg := get_bs s i hi
      have hnx := get_bs s (i + 1)
      have hln : by' (bs s) (i + 1) ≠ 0 → i + 1 < s.size := fun h => by have := by_len h; rw [size_bs]; exact this
      obtain ⟨r, n, hd⟩ : ∃ r n, Lib.decodeL ((bs s).drop i) = (r, n) := ⟨_, _, rfl⟩
      have hED := fun h1 h2 => end_dec (bs s) i h1 h2 r n hd
      have hFF := fun w hT => first_some (s.extract i s.size) (r : Int) n (by rw [size_bs, bs_drop, List.length_drop, ← size_bs]; omega) (by rw [bs_drop, hd]) (by rw [bs_drop, hd]) w hT
      obtain ⟨ex, hx⟩ : ∃ e, endN (bs s) i = e := ⟨_, rfl⟩
      rw [hx] at hED hec ⊢
      obtain ⟨b, hb⟩ : ∃ b, by' (bs s) i = b := ⟨_, rfl⟩
      obtain ⟨b1, hb1⟩ : ∃ b, by' (bs s) (i + 1) = b := ⟨_, rfl⟩
      rw [hb] at hED hec hg
      rw [hb1] at hec hnx hln
      clear hd hx hb hb1 h0 h1
      by_cases e10 : b = 10
      · have hb10 : ((b : Int) == 10) = true := beq_iff_eq.2 (by omega)
        clear hED hFF hln hnx
        by_cases hz : i = 0
        · subst hz
          have hse : ¬ s = ByteArray.empty := by intro e; subst e; simp at hi
          have HV := Lib.hid (show ex = 1 by omega)
          clear hec e10
          go_enter Tryd.func63, Tryd.ntmps63
          go_wp2_with fail
          go_ret2
          exact ⟨end_ret HV.out rfl, Below.refl _ _⟩
        · obtain ⟨j, rfl⟩ : ∃ j, i = j + 1 := ⟨i - 1, by omega⟩
          have hgj := get_bs s j (by omega)
          rw [Nat.add_sub_cancel] at hec
          obtain ⟨p, hp⟩ : ∃ b, by' (bs s) j = b := ⟨_, rfl⟩
          rw [hp] at hec hgj
          have hj0 : (0 : Int) ≤ (j : Int) := by omega
          have hjj : (j : Int) < (s.size : Int) := by omega
          have hjs : j < s.size := by omega
          clear hp hz
          by_cases e13 : p = 13
          · have hp13 : ((p : Int) == 13) = true := beq_iff_eq.2 (by omega)
            have HV := Lib.hid (show ex = 0 by omega)
            clear hec e10 e13
            go_enter Tryd.func63, Tryd.ntmps63
            go_wp2_with fail
            go_ret2
            exact ⟨end_ret HV.out rfl, Below.refl _ _⟩
          · have hp13 : ((p : Int) == 13) = false := beq_eq_false_iff_ne.2 (by omega)
            have HV := Lib.hid (show ex = 1 by omega)
            clear hec e10 e13
            go_enter Tryd.func63, Tryd.ntmps63
            go_wp2_with fail
            go_ret2
            exact ⟨end_ret HV.out rfl, Below.refl _ _⟩
      · have hb10 : ((b : Int) == 10) = false := beq_eq_false_iff_ne.2 (by omega)
        by_cases e13 : b = 13
        · have hb13 : ((b : Int) == 13) = true := beq_iff_eq.2 (by omega)
          clear hED hFF
          by_cases hl : i + 1 < s.size
          · have hg1 := hnx hl
            have hl1 : (i : Int) + 1 < (s.size : Int) := by omega
            have hl0 : (0 : Int) ≤ (i : Int) + 1 := by omega
            by_cases e2 : b1 = 10
            · have h10 : ((b1 : Int) == 10) = true := beq_iff_eq.2 (by omega)
              have HV := Lib.hid (show ex = 2 by omega)
              clear hec e10 e13 e2 hnx hln
              go_enter Tryd.func63, Tryd.ntmps63
              go_wp2_with fail
              go_ret2
              exact ⟨end_ret HV.out rfl, Below.refl _ _⟩
            · have h10 : ((b1 : Int) == 10) = false := beq_eq_false_iff_ne.2 (by omega)
              have HV := Lib.hid (show ex = 1 by omega)
              clear hec e10 e13 e2 hnx hln
              go_enter Tryd.func63, Tryd.ntmps63
              go_wp2_with fail
              go_ret2
              exact ⟨end_ret HV.out rfl, Below.refl _ _⟩
          · have hl1 : (s.size : Int) ≤ (i : Int) + 1 := by omega
            have HV := Lib.hid (show ex = 1 by
              have : b1 = 0 := by
                rcases Nat.eq_zero_or_pos b1 with h | h
                · exact h
                · exact absurd (hln (by omega)) hl
              omega)
            clear hec e10 e13 hnx hln
            go_enter Tryd.func63, Tryd.ntmps63
            go_wp2_with fail
            go_ret2
            exact ⟨end_ret HV.out rfl, Below.refl _ _⟩
        · have hb13 : ((b : Int) == 13) = false := beq_eq_false_iff_ne.2 (by omega)
          have HF := Lib.hid hFF
          rcases hED e10 e13 with ⟨hr, he, hn0⟩ | ⟨a1, a2, a3, he⟩
          · have hR := end_right (n := n) hr
            rw [hR] at HF
            have HV := Lib.hid he
            have HN := Lib.hid (show nzB n = true from bne_iff_ne.2 hn0)
            clear hec e10 e13 hED hFF hR he hn0
            rcases hr with rfl | rfl | rfl
            all_goals
              go_enter Tryd.func63, Tryd.ntmps63
              go_wp2_with (first | (go_at_call 40; (with_reducible refine (HF.out _ HT.out).mono ?_); rintro e w1 ⟨rfl, hb1⟩))
              go_ret2
              exact ⟨end_ret HV.out HN.out, hb1⟩
          · have HV := Lib.hid he
            have hr1 : ((r : Int) == 133) = false := beq_eq_false_iff_ne.2 (by omega)
            have hr2 : ((r : Int) == 8232) = false := beq_eq_false_iff_ne.2 (by omega)
            have hr3 : ((r : Int) == 8233) = false := beq_eq_false_iff_ne.2 (by omega)
            clear hec e10 e13 hED hFF he a1 a2 a3
            go_enter Tryd.func63, Tryd.ntmps63
            go_wp2_with (first | (go_at_call 40; (with_reducible refine (HF.out _ HT.out).mono ?_); rintro e w1 ⟨rfl, hb1⟩))
            go_ret2
            exact ⟨end_ret HV.out rfl, hb1⟩
end Go.Proofs.YticonolnagcakaaDoor

namespace Go.Proofs.YticonolnagcakaaDoor
open Go.RowKit

/-- the width that the document's End hands back (where none ends, too) -/
def endR (l : Bs) (i : Nat) : Nat := if by' l i = 10 then 1 else endN l i
def endRZ (l : Bs) (c : Int) : Nat := if c < 0 ∨ (l.length : Int) ≤ c then 0 else endR l c.toNat
theorem endRZ_nat {l : Bs} {i : Nat} (h : i < l.length) : endRZ l (i : Nat) = endR l i := if_neg (by omega)
theorem endRZ_out {l : Bs} {c : Int} (h : c < 0 ∨ (l.length : Int) ≤ c) : endRZ l c = 0 := if_pos h
theorem endR_yes {l : Bs} {i : Nat} (h : endN l i ≠ 0) : endR l i = endN l i := by
  unfold endR
  by_cases a : by' l i = 10
  · rw [if_pos a]
    rcases end_cases l i with h1 | h1 | h1 | h1 | h1 | h1 | h1 <;> omega
  · rw [if_neg a]
theorem end_ret' {k m : Nat} {n : Nat} {v : Int} {b : Bool} (h : v = (k : Nat)) (h2 : m = n) (hb : nzB n = b) : Ending.returned (.tuple #[.int .i64 v, .bool b]) = .returned (.tuple #[.int .i64 (k : Nat), .bool (nzB m)]) := by rw [h, h2, hb]

set_option maxHeartbeats 8000000 in
theorem refend_any (s : ByteArray) (hs : s.size ≤ 140737488351232) (c : Int) (w : World) :
    Calls Tryd.prog 51 #[.string s, .int .i64 c] w fun e w' => e = .returned (.tuple #[.int .i64 (endRZ (bs s) c : Nat), .bool (nzB (endZ (bs s) c))]) ∧ Below w.heap.size w w' := by
  by_cases h0 : c < 0
  · have HV := Lib.hid (endZ_neg (bs s) c h0)
    have HK := Lib.hid (show (0 : Int) = (endRZ (bs s) c : Nat) by rw [endRZ_out (.inl h0)]; rfl)
    go_enter Tryd.func51, Tryd.ntmps51
    go_wp2_with fail
    go_ret2
    exact ⟨end_ret' HK.out HV.out rfl, Below.refl _ _⟩
  · by_cases h1 : (s.size : Int) ≤ c
    · have HV := Lib.hid (endZ_out (bs s) c (by rw [← size_bs]; exact h1))
      have HK := Lib.hid (show (0 : Int) = (endRZ (bs s) c : Nat) by rw [endRZ_out (.inr (by rw [← size_bs]; exact h1))]; rfl)
      go_enter Tryd.func51, Tryd.ntmps51
      go_wp2_with fail
      go_ret2
      exact ⟨end_ret' HK.out HV.out rfl, Below.refl _ _⟩
    · obtain ⟨i, rfl⟩ : ∃ i : Nat, c = i := ⟨c.toNat, by omega⟩
      have hi : i < s.size := by omega
      have hi0 : (0 : Int) ≤ (i : Int) := by omega
      have hii : (i : Int) < (s.size : Int) := by omega
      have hd1 : decide (s.size ≤ i) = false := decide_eq_false (by omega)
      rw [endZ_nat, endRZ_nat (by rw [← size_bs]; exact hi)]
      have hec := end_cases (bs s) i
      have her : endR (bs s) i = if by' (bs s) i = 10 then 1 else endN (bs s) i := rfl
      have hR : bs (s.extract i s.size) = (bs s).drop i := bs_drop s i
      have hRz : (s.extract i s.size).size = s.size - i := by rw [ByteArray.size_extract]; omega
      obtain ⟨R, hRR⟩ : ∃ R, s.extract i s.size = R := ⟨_, rfl⟩
      rw [hRR] at hR hRz
      have hr0 := fun h => get_bs R 0 h
      have hr1 := fun h => get_bs R 1 h
      have hr2 := fun h => get_bs R 2 h
      rw [hR, by_drop, Nat.add_zero] at hr0
      rw [hR, by_drop] at hr1
      rw [hR, by_drop] at hr2
      have hl1 : by' (bs s) (i + 1) ≠ 0 → 1 < R.size := fun h => by have := by_len h; rw [← size_bs] at this; omega
      have hl2 : by' (bs s) (i + 2) ≠ 0 → 2 < R.size := fun h => by have := by_len h; rw [← size_bs] at this; omega
      have hpv : ∀ j, i = j + 1 → by' (bs s) (i - 1) = by' (bs s) j := fun j e => by rw [e, Nat.add_sub_cancel]
      have hgp : ∀ j (hj : j < s.size), (s[j]'hj).toNat = by' (bs s) j := fun j hj => get_bs s j hj
      obtain ⟨ex, hx⟩ : ∃ e, endN (bs s) i = e := ⟨_, rfl⟩
      obtain ⟨k, hk⟩ : ∃ e, endR (bs s) i = e := ⟨_, rfl⟩
      obtain ⟨b, hb⟩ : ∃ b, by' (bs s) i = b := ⟨_, rfl⟩
      obtain ⟨b1, hb1⟩ : ∃ b, by' (bs s) (i + 1) = b := ⟨_, rfl⟩
      obtain ⟨b2, hb2⟩ : ∃ b, by' (bs s) (i + 2) = b := ⟨_, rfl⟩
      rw [hx] at hec her ⊢
      rw [hk] at her ⊢
      rw [hb] at hec her hr0
      rw [hb1] at hec hr1 hl1
      rw [hb2] at hec hr2 hl2
      have hn1 : 1 ≤ R.size := by omega
      have hn0 : 0 < R.size := hn1
      have hg0 := hr0 hn0
      have hs1 : s.size - i = R.size := hRz.symm
      have hRb : R.size ≤ 140737488351232 := by omega
      clear hR hRz hx hk hb hb1 hb2 h0 h1 hr0
      by_cases e13 : b = 13
      · have qb13 : (((b : Nat) : Int) == 13) = true := beq_iff_eq.2 (by omega)
        have qb10 : (((b : Nat) : Int) == 10) = false := beq_eq_false_iff_ne.2 (by omega)
        have qb194 : (((b : Nat) : Int) == 194) = false := beq_eq_false_iff_ne.2 (by omega)
        have qb226 : (((b : Nat) : Int) == 226) = false := beq_eq_false_iff_ne.2 (by omega)
        by_cases hz1 : 1 < R.size
        · have hz1i : (1 : Int) < (R.size : Int) := by omega
          have hz1d : decide (1 < R.size) = true := decide_eq_true hz1
          have hg1 := hr1 hz1
          by_cases hz2 : 2 < R.size
          · have hz2i : (2 : Int) < (R.size : Int) := by omega
            have hz2d : decide (2 < R.size) = true := decide_eq_true hz2
            have hg2 := hr2 hz2
            by_cases f10 : b1 = 10
            · have qb110 : (((b1 : Nat) : Int) == 10) = true := beq_iff_eq.2 (by omega)
              have HV := Lib.hid (show ex = 2 by omega)
              have HK := Lib.hid (show (2 : Int) = (k : Nat) by by_cases e : b = 10; rw [if_pos e] at her; omega; rw [if_neg e] at her; omega)
              clear hec her hl1 hl2 hr1 hr2 hpv hgp
              go_enter Tryd.func51, Tryd.ntmps51
              go_wp2_with fail
              go_ret2
              exact ⟨end_ret' HK.out HV.out rfl, Below.refl _ _⟩
            · have qb110 : (((b1 : Nat) : Int) == 10) = false := beq_eq_false_iff_ne.2 (by omega)
              have HV := Lib.hid (show ex = 1 by omega)
              have HK := Lib.hid (show (1 : Int) = (k : Nat) by by_cases e : b = 10; rw [if_pos e] at her; omega; rw [if_neg e] at her; omega)
              clear hec her hl1 hl2 hr1 hr2 hpv hgp
              go_enter Tryd.func51, Tryd.ntmps51
              go_wp2_with fail
              go_ret2
              exact ⟨end_ret' HK.out HV.out rfl, Below.refl _ _⟩
          · have hz2i : (R.size : Int) ≤ 2 := by omega
            have hz2d : decide (2 < R.size) = false := decide_eq_false hz2
            by_cases f10 : b1 = 10
            · have qb110 : (((b1 : Nat) : Int) == 10) = true := beq_iff_eq.2 (by omega)
              have HV := Lib.hid (show ex = 2 by omega)
              have HK := Lib.hid (show (2 : Int) = (k : Nat) by by_cases e : b = 10; rw [if_pos e] at her; omega; rw [if_neg e] at her; omega)
              clear hec her hl1 hl2 hr1 hr2 hpv hgp
              go_enter Tryd.func51, Tryd.ntmps51
              go_wp2_with fail
              go_ret2
              exact ⟨end_ret' HK.out HV.out rfl, Below.refl _ _⟩
            · have qb110 : (((b1 : Nat) : Int) == 10) = false := beq_eq_false_iff_ne.2 (by omega)
              have HV := Lib.hid (show ex = 1 by omega)
              have HK := Lib.hid (show (1 : Int) = (k : Nat) by by_cases e : b = 10; rw [if_pos e] at her; omega; rw [if_neg e] at her; omega)
              clear hec her hl1 hl2 hr1 hr2 hpv hgp
              go_enter Tryd.func51, Tryd.ntmps51
              go_wp2_with fail
              go_ret2
              exact ⟨end_ret' HK.out HV.out rfl, Below.refl _ _⟩
        · have hz1i : (R.size : Int) ≤ 1 := by omega
          have hz1d : decide (1 < R.size) = false := decide_eq_false hz1
          have hz2i : (R.size : Int) ≤ 2 := by omega
          have hz2d : decide (2 < R.size) = false := decide_eq_false (by omega)
          have zb1 : b1 = 0 := by rcases Nat.eq_zero_or_pos b1 with h | h; exact h; exact absurd (hl1 (by omega)) (by omega)
          have HV := Lib.hid (show ex = 1 by omega)
          have HK := Lib.hid (show (1 : Int) = (k : Nat) by by_cases e : b = 10; rw [if_pos e] at her; omega; rw [if_neg e] at her; omega)
          clear hec her hl1 hl2 hr1 hr2 hpv hgp
          go_enter Tryd.func51, Tryd.ntmps51
          go_wp2_with fail
          go_ret2
          exact ⟨end_ret' HK.out HV.out rfl, Below.refl _ _⟩
      by_cases e10 : b = 10
      · have qb13 : (((b : Nat) : Int) == 13) = false := beq_eq_false_iff_ne.2 (by omega)
        have qb10 : (((b : Nat) : Int) == 10) = true := beq_iff_eq.2 (by omega)
        have qb194 : (((b : Nat) : Int) == 194) = false := beq_eq_false_iff_ne.2 (by omega)
        have qb226 : (((b : Nat) : Int) == 226) = false := beq_eq_false_iff_ne.2 (by omega)
        by_cases hz1 : 1 < R.size
        · have hz1i : (1 : Int) < (R.size : Int) := by omega
          have hz1d : decide (1 < R.size) = true := decide_eq_true hz1
          have hg1 := hr1 hz1
          by_cases hz2 : 2 < R.size
          · have hz2i : (2 : Int) < (R.size : Int) := by omega
            have hz2d : decide (2 < R.size) = true := decide_eq_true hz2
            have hg2 := hr2 hz2
            by_cases hi : i = 0
            · subst hi
              have hse : ¬ s = ByteArray.empty := by intro e; subst e; simp at hii
              have HV := Lib.hid (show ex = 1 by omega)
              have HK := Lib.hid (show (1 : Int) = (k : Nat) by by_cases e : b = 10; rw [if_pos e] at her; omega; rw [if_neg e] at her; omega)
              clear hec her hl1 hl2 hr1 hr2 hpv hgp
              go_enter Tryd.func51, Tryd.ntmps51
              go_wp2_with fail
              go_quiet (fail)
              go_wp2_with fail
              go_ret2
              exact ⟨end_ret' HK.out HV.out rfl, below_drewN (Below.refl _ _) _⟩
            · obtain ⟨j, rfl⟩ : ∃ j, i = j + 1 := ⟨i - 1, by omega⟩
              have hgj := hgp j (by omega)
              have hpj := hpv j rfl
              obtain ⟨p, hp⟩ : ∃ b, by' (bs s) j = b := ⟨_, rfl⟩
              rw [hpj, hp] at hec
              rw [hp] at hgj
              have hj0 : (0 : Int) ≤ (j : Int) := by omega
              have hjj : (j : Int) < (s.size : Int) := by omega
              have hjs : j < s.size := by omega
              have hjz : (((j : Nat) : Int) + 1 == 0) = false := beq_eq_false_iff_ne.2 (by omega)
              clear hp hpj
              by_cases g13 : p = 13
              · have qp : (((p : Nat) : Int) != 13) = false := by simp; omega
                have HV := Lib.hid (show ex = 0 by omega)
                have HK := Lib.hid (show (1 : Int) = (k : Nat) by by_cases e : b = 10; rw [if_pos e] at her; omega; rw [if_neg e] at her; omega)
                clear hec her hl1 hl2 hr1 hr2 hpv hgp
                go_enter Tryd.func51, Tryd.ntmps51
                go_wp2_with fail
                go_quiet (fail)
                go_wp2_with fail
                go_ret2
                exact ⟨end_ret' HK.out HV.out rfl, below_drewN (Below.refl _ _) _⟩
              · have qp : (((p : Nat) : Int) != 13) = true := bne_iff_ne.2 (by omega)
                have HV := Lib.hid (show ex = 1 by omega)
                have HK := Lib.hid (show (1 : Int) = (k : Nat) by by_cases e : b = 10; rw [if_pos e] at her; omega; rw [if_neg e] at her; omega)
                clear hec her hl1 hl2 hr1 hr2 hpv hgp
                go_enter Tryd.func51, Tryd.ntmps51
                go_wp2_with fail
                go_quiet (fail)
                go_wp2_with fail
                go_ret2
                exact ⟨end_ret' HK.out HV.out rfl, below_drewN (Below.refl _ _) _⟩
          · have hz2i : (R.size : Int) ≤ 2 := by omega
            have hz2d : decide (2 < R.size) = false := decide_eq_false hz2
            by_cases hi : i = 0
            · subst hi
              have hse : ¬ s = ByteArray.empty := by intro e; subst e; simp at hii
              have HV := Lib.hid (show ex = 1 by omega)
              have HK := Lib.hid (show (1 : Int) = (k : Nat) by by_cases e : b = 10; rw [if_pos e] at her; omega; rw [if_neg e] at her; omega)
              clear hec her hl1 hl2 hr1 hr2 hpv hgp
              go_enter Tryd.func51, Tryd.ntmps51
              go_wp2_with fail
              go_quiet (fail)
              go_wp2_with fail
              go_ret2
              exact ⟨end_ret' HK.out HV.out rfl, below_drewN (Below.refl _ _) _⟩
            · obtain ⟨j, rfl⟩ : ∃ j, i = j + 1 := ⟨i - 1, by omega⟩
              have hgj := hgp j (by omega)
              have hpj := hpv j rfl
              obtain ⟨p, hp⟩ : ∃ b, by' (bs s) j = b := ⟨_, rfl⟩
              rw [hpj, hp] at hec
              rw [hp] at hgj
              have hj0 : (0 : Int) ≤ (j : Int) := by omega
              have hjj : (j : Int) < (s.size : Int) := by omega
              have hjs : j < s.size := by omega
              have hjz : (((j : Nat) : Int) + 1 == 0) = false := beq_eq_false_iff_ne.2 (by omega)
              clear hp hpj
              by_cases g13 : p = 13
              · have qp : (((p : Nat) : Int) != 13) = false := by simp; omega
                have HV := Lib.hid (show ex = 0 by omega)
                have HK := Lib.hid (show (1 : Int) = (k : Nat) by by_cases e : b = 10; rw [if_pos e] at her; omega; rw [if_neg e] at her; omega)
                clear hec her hl1 hl2 hr1 hr2 hpv hgp
                go_enter Tryd.func51, Tryd.ntmps51
                go_wp2_with fail
                go_quiet (fail)
                go_wp2_with fail
                go_ret2
                exact ⟨end_ret' HK.out HV.out rfl, below_drewN (Below.refl _ _) _⟩
              · have qp : (((p : Nat) : Int) != 13) = true := bne_iff_ne.2 (by omega)
                have HV := Lib.hid (show ex = 1 by omega)
                have HK := Lib.hid (show (1 : Int) = (k : Nat) by by_cases e : b = 10; rw [if_pos e] at her; omega; rw [if_neg e] at her; omega)
                clear hec her hl1 hl2 hr1 hr2 hpv hgp
                go_enter Tryd.func51, Tryd.ntmps51
                go_wp2_with fail
                go_quiet (fail)
                go_wp2_with fail
                go_ret2
                exact ⟨end_ret' HK.out HV.out rfl, below_drewN (Below.refl _ _) _⟩
        · have hz1i : (R.size : Int) ≤ 1 := by omega
          have hz1d : decide (1 < R.size) = false := decide_eq_false hz1
          have hz2i : (R.size : Int) ≤ 2 := by omega
          have hz2d : decide (2 < R.size) = false := decide_eq_false (by omega)
          by_cases hi : i = 0
          · subst hi
            have hse : ¬ s = ByteArray.empty := by intro e; subst e; simp at hii
            have HV := Lib.hid (show ex = 1 by omega)
            have HK := Lib.hid (show (1 : Int) = (k : Nat) by by_cases e : b = 10; rw [if_pos e] at her; omega; rw [if_neg e] at her; omega)
            clear hec her hl1 hl2 hr1 hr2 hpv hgp
            go_enter Tryd.func51, Tryd.ntmps51
            go_wp2_with fail
            go_quiet (fail)
            go_wp2_with fail
            go_ret2
            exact ⟨end_ret' HK.out HV.out rfl, below_drewN (Below.refl _ _) _⟩
          · obtain ⟨j, rfl⟩ : ∃ j, i = j + 1 := ⟨i - 1, by omega⟩
            have hgj := hgp j (by omega)
            have hpj := hpv j rfl
            obtain ⟨p, hp⟩ : ∃ b, by' (bs s) j = b := ⟨_, rfl⟩
            rw [hpj, hp] at hec
            rw [hp] at hgj
            have hj0 : (0 : Int) ≤ (j : Int) := by omega
            have hjj : (j : Int) < (s.size : Int) := by omega
            have hjs : j < s.size := by omega
            have hjz : (((j : Nat) : Int) + 1 == 0) = false := beq_eq_false_iff_ne.2 (by omega)
            clear hp hpj
            by_cases g13 : p = 13
            · have qp : (((p : Nat) : Int) != 13) = false := by simp; omega
              have HV := Lib.hid (show ex = 0 by omega)
              have HK := Lib.hid (show (1 : Int) = (k : Nat) by by_cases e : b = 10; rw [if_pos e] at her; omega; rw [if_neg e] at her; omega)
              clear hec her hl1 hl2 hr1 hr2 hpv hgp
              go_enter Tryd.func51, Tryd.ntmps51
              go_wp2_with fail
              go_quiet (fail)
              go_wp2_with fail
              go_ret2
              exact ⟨end_ret' HK.out HV.out rfl, below_drewN (Below.refl _ _) _⟩
            · have qp : (((p : Nat) : Int) != 13) = true := bne_iff_ne.2 (by omega)
              have HV := Lib.hid (show ex = 1 by omega)
              have HK := Lib.hid (show (1 : Int) = (k : Nat) by by_cases e : b = 10; rw [if_pos e] at her; omega; rw [if_neg e] at her; omega)
              clear hec her hl1 hl2 hr1 hr2 hpv hgp
              go_enter Tryd.func51, Tryd.ntmps51
              go_wp2_with fail
              go_quiet (fail)
              go_wp2_with fail
              go_ret2
              exact ⟨end_ret' HK.out HV.out rfl, below_drewN (Below.refl _ _) _⟩
      by_cases e194 : b = 194
      · have qb13 : (((b : Nat) : Int) == 13) = false := beq_eq_false_iff_ne.2 (by omega)
        have qb10 : (((b : Nat) : Int) == 10) = false := beq_eq_false_iff_ne.2 (by omega)
        have qb194 : (((b : Nat) : Int) == 194) = true := beq_iff_eq.2 (by omega)
        have qb226 : (((b : Nat) : Int) == 226) = false := beq_eq_false_iff_ne.2 (by omega)
        by_cases hz1 : 1 < R.size
        · have hz1i : (1 : Int) < (R.size : Int) := by omega
          have hz1d : decide (1 < R.size) = true := decide_eq_true hz1
          have hg1 := hr1 hz1
          by_cases hz2 : 2 < R.size
          · have hz2i : (2 : Int) < (R.size : Int) := by omega
            have hz2d : decide (2 < R.size) = true := decide_eq_true hz2
            have hg2 := hr2 hz2
            by_cases f133 : b1 = 133
            · have qb1133 : (((b1 : Nat) : Int) == 133) = true := beq_iff_eq.2 (by omega)
              have HV := Lib.hid (show ex = 2 by omega)
              have HK := Lib.hid (show (2 : Int) = (k : Nat) by by_cases e : b = 10; rw [if_pos e] at her; omega; rw [if_neg e] at her; omega)
              clear hec her hl1 hl2 hr1 hr2 hpv hgp
              go_enter Tryd.func51, Tryd.ntmps51
              go_wp2_with fail
              go_ret2
              exact ⟨end_ret' HK.out HV.out rfl, Below.refl _ _⟩
            · have qb1133 : (((b1 : Nat) : Int) == 133) = false := beq_eq_false_iff_ne.2 (by omega)
              have HV := Lib.hid (show ex = 0 by omega)
              have HK := Lib.hid (show (0 : Int) = (k : Nat) by by_cases e : b = 10; rw [if_pos e] at her; omega; rw [if_neg e] at her; omega)
              clear hec her hl1 hl2 hr1 hr2 hpv hgp
              go_enter Tryd.func51, Tryd.ntmps51
              go_wp2_with fail
              go_ret2
              exact ⟨end_ret' HK.out HV.out rfl, Below.refl _ _⟩
          · have hz2i : (R.size : Int) ≤ 2 := by omega
            have hz2d : decide (2 < R.size) = false := decide_eq_false hz2
            by_cases f133 : b1 = 133
            · have qb1133 : (((b1 : Nat) : Int) == 133) = true := beq_iff_eq.2 (by omega)
              have HV := Lib.hid (show ex = 2 by omega)
              have HK := Lib.hid (show (2 : Int) = (k : Nat) by by_cases e : b = 10; rw [if_pos e] at her; omega; rw [if_neg e] at her; omega)
              clear hec her hl1 hl2 hr1 hr2 hpv hgp
              go_enter Tryd.func51, Tryd.ntmps51
              go_wp2_with fail
              go_ret2
              exact ⟨end_ret' HK.out HV.out rfl, Below.refl _ _⟩
            · have qb1133 : (((b1 : Nat) : Int) == 133) = false := beq_eq_false_iff_ne.2 (by omega)
              have HV := Lib.hid (show ex = 0 by omega)
              have HK := Lib.hid (show (0 : Int) = (k : Nat) by by_cases e : b = 10; rw [if_pos e] at her; omega; rw [if_neg e] at her; omega)
              clear hec her hl1 hl2 hr1 hr2 hpv hgp
              go_enter Tryd.func51, Tryd.ntmps51
              go_wp2_with fail
              go_ret2
              exact ⟨end_ret' HK.out HV.out rfl, Below.refl _ _⟩
        · have hz1i : (R.size : Int) ≤ 1 := by omega
          have hz1d : decide (1 < R.size) = false := decide_eq_false hz1
          have hz2i : (R.size : Int) ≤ 2 := by omega
          have hz2d : decide (2 < R.size) = false := decide_eq_false (by omega)
          have zb1 : b1 = 0 := by rcases Nat.eq_zero_or_pos b1 with h | h; exact h; exact absurd (hl1 (by omega)) (by omega)
          have HV := Lib.hid (show ex = 0 by omega)
          have HK := Lib.hid (show (0 : Int) = (k : Nat) by by_cases e : b = 10; rw [if_pos e] at her; omega; rw [if_neg e] at her; omega)
          clear hec her hl1 hl2 hr1 hr2 hpv hgp
          go_enter Tryd.func51, Tryd.ntmps51
          go_wp2_with fail
          go_ret2
          exact ⟨end_ret' HK.out HV.out rfl, Below.refl _ _⟩
      by_cases e226 : b = 226
      · have qb13 : (((b : Nat) : Int) == 13) = false := beq_eq_false_iff_ne.2 (by omega)
        have qb10 : (((b : Nat) : Int) == 10) = false := beq_eq_false_iff_ne.2 (by omega)
        have qb194 : (((b : Nat) : Int) == 194) = false := beq_eq_false_iff_ne.2 (by omega)
        have qb226 : (((b : Nat) : Int) == 226) = true := beq_iff_eq.2 (by omega)
        by_cases hz1 : 1 < R.size
        · have hz1i : (1 : Int) < (R.size : Int) := by omega
          have hz1d : decide (1 < R.size) = true := decide_eq_true hz1
          have hg1 := hr1 hz1
          by_cases hz2 : 2 < R.size
          · have hz2i : (2 : Int) < (R.size : Int) := by omega
            have hz2d : decide (2 < R.size) = true := decide_eq_true hz2
            have hg2 := hr2 hz2
            by_cases f128 : b1 = 128
            · have qb1128 : (((b1 : Nat) : Int) == 128) = true := beq_iff_eq.2 (by omega)
              by_cases g168 : b2 = 168
              · have qb2168 : (((b2 : Nat) : Int) == 168) = true := beq_iff_eq.2 (by omega)
                have qb2169 : (((b2 : Nat) : Int) == 169) = false := beq_eq_false_iff_ne.2 (by omega)
                have HV := Lib.hid (show ex = 3 by omega)
                have HK := Lib.hid (show (3 : Int) = (k : Nat) by by_cases e : b = 10; rw [if_pos e] at her; omega; rw [if_neg e] at her; omega)
                clear hec her hl1 hl2 hr1 hr2 hpv hgp
                go_enter Tryd.func51, Tryd.ntmps51
                go_wp2_with fail
                go_ret2
                exact ⟨end_ret' HK.out HV.out rfl, Below.refl _ _⟩
              · have qb2168 : (((b2 : Nat) : Int) == 168) = false := beq_eq_false_iff_ne.2 (by omega)
                by_cases g169 : b2 = 169
                · have qb2169 : (((b2 : Nat) : Int) == 169) = true := beq_iff_eq.2 (by omega)
                  have HV := Lib.hid (show ex = 3 by omega)
                  have HK := Lib.hid (show (3 : Int) = (k : Nat) by by_cases e : b = 10; rw [if_pos e] at her; omega; rw [if_neg e] at her; omega)
                  clear hec her hl1 hl2 hr1 hr2 hpv hgp
                  go_enter Tryd.func51, Tryd.ntmps51
                  go_wp2_with fail
                  go_ret2
                  exact ⟨end_ret' HK.out HV.out rfl, Below.refl _ _⟩
                · have qb2169 : (((b2 : Nat) : Int) == 169) = false := beq_eq_false_iff_ne.2 (by omega)
                  have HV := Lib.hid (show ex = 0 by omega)
                  have HK := Lib.hid (show (0 : Int) = (k : Nat) by by_cases e : b = 10; rw [if_pos e] at her; omega; rw [if_neg e] at her; omega)
                  clear hec her hl1 hl2 hr1 hr2 hpv hgp
                  go_enter Tryd.func51, Tryd.ntmps51
                  go_wp2_with fail
                  go_ret2
                  exact ⟨end_ret' HK.out HV.out rfl, Below.refl _ _⟩
            · have qb1128 : (((b1 : Nat) : Int) == 128) = false := beq_eq_false_iff_ne.2 (by omega)
              have HV := Lib.hid (show ex = 0 by omega)
              have HK := Lib.hid (show (0 : Int) = (k : Nat) by by_cases e : b = 10; rw [if_pos e] at her; omega; rw [if_neg e] at her; omega)
              clear hec her hl1 hl2 hr1 hr2 hpv hgp
              go_enter Tryd.func51, Tryd.ntmps51
              go_wp2_with fail
              go_ret2
              exact ⟨end_ret' HK.out HV.out rfl, Below.refl _ _⟩
          · have hz2i : (R.size : Int) ≤ 2 := by omega
            have hz2d : decide (2 < R.size) = false := decide_eq_false hz2
            have zb2 : b2 = 0 := by rcases Nat.eq_zero_or_pos b2 with h | h; exact h; exact absurd (hl2 (by omega)) (by omega)
            have HV := Lib.hid (show ex = 0 by omega)
            have HK := Lib.hid (show (0 : Int) = (k : Nat) by by_cases e : b = 10; rw [if_pos e] at her; omega; rw [if_neg e] at her; omega)
            clear hec her hl1 hl2 hr1 hr2 hpv hgp
            go_enter Tryd.func51, Tryd.ntmps51
            go_wp2_with fail
            go_ret2
            exact ⟨end_ret' HK.out HV.out rfl, Below.refl _ _⟩
        · have hz1i : (R.size : Int) ≤ 1 := by omega
          have hz1d : decide (1 < R.size) = false := decide_eq_false hz1
          have hz2i : (R.size : Int) ≤ 2 := by omega
          have hz2d : decide (2 < R.size) = false := decide_eq_false (by omega)
          have zb2 : b2 = 0 := by rcases Nat.eq_zero_or_pos b2 with h | h; exact h; exact absurd (hl2 (by omega)) (by omega)
          have HV := Lib.hid (show ex = 0 by omega)
          have HK := Lib.hid (show (0 : Int) = (k : Nat) by by_cases e : b = 10; rw [if_pos e] at her; omega; rw [if_neg e] at her; omega)
          clear hec her hl1 hl2 hr1 hr2 hpv hgp
          go_enter Tryd.func51, Tryd.ntmps51
          go_wp2_with fail
          go_ret2
          exact ⟨end_ret' HK.out HV.out rfl, Below.refl _ _⟩
      · have qb13 : (((b : Nat) : Int) == 13) = false := beq_eq_false_iff_ne.2 (by omega)
        have qb10 : (((b : Nat) : Int) == 10) = false := beq_eq_false_iff_ne.2 (by omega)
        have qb194 : (((b : Nat) : Int) == 194) = false := beq_eq_false_iff_ne.2 (by omega)
        have qb226 : (((b : Nat) : Int) == 226) = false := beq_eq_false_iff_ne.2 (by omega)
        by_cases hz1 : 1 < R.size
        · have hz1i : (1 : Int) < (R.size : Int) := by omega
          have hz1d : decide (1 < R.size) = true := decide_eq_true hz1
          have hg1 := hr1 hz1
          by_cases hz2 : 2 < R.size
          · have hz2i : (2 : Int) < (R.size : Int) := by omega
            have hz2d : decide (2 < R.size) = true := decide_eq_true hz2
            have hg2 := hr2 hz2
            have HV := Lib.hid (show ex = 0 by omega)
            have HK := Lib.hid (show (0 : Int) = (k : Nat) by by_cases e : b = 10; rw [if_pos e] at her; omega; rw [if_neg e] at her; omega)
            clear hec her hl1 hl2 hr1 hr2 hpv hgp
            go_enter Tryd.func51, Tryd.ntmps51
            go_wp2_with fail
            go_ret2
            exact ⟨end_ret' HK.out HV.out rfl, Below.refl _ _⟩
          · have hz2i : (R.size : Int) ≤ 2 := by omega
            have hz2d : decide (2 < R.size) = false := decide_eq_false hz2
            have HV := Lib.hid (show ex = 0 by omega)
            have HK := Lib.hid (show (0 : Int) = (k : Nat) by by_cases e : b = 10; rw [if_pos e] at her; omega; rw [if_neg e] at her; omega)
            clear hec her hl1 hl2 hr1 hr2 hpv hgp
            go_enter Tryd.func51, Tryd.ntmps51
            go_wp2_with fail
            go_ret2
            exact ⟨end_ret' HK.out HV.out rfl, Below.refl _ _⟩
        · have hz1i : (R.size : Int) ≤ 1 := by omega
          have hz1d : decide (1 < R.size) = false := decide_eq_false hz1
          have hz2i : (R.size : Int) ≤ 2 := by omega
          have hz2d : decide (2 < R.size) = false := decide_eq_false (by omega)
          have HV := Lib.hid (show ex = 0 by omega)
          have HK := Lib.hid (show (0 : Int) = (k : Nat) by by_cases e : b = 10; rw [if_pos e] at her; omega; rw [if_neg e] at her; omega)
          clear hec her hl1 hl2 hr1 hr2 hpv hgp
          go_enter Tryd.func51, Tryd.ntmps51
          go_wp2_with fail
          go_ret2
          exact ⟨end_ret' HK.out HV.out rfl, Below.refl _ _⟩
end Go.Proofs.YticonolnagcakaaDoor

namespace Go.Proofs.YticonolnagcakaaDoor
open Go.RowKit

theorem info_line : (Tryd.prog.info? 95).map (fun i => (i.zero, i.size, i.bytes)) = some (some (.agg #[.int .i64 0, .int .i64 0, .int .i64 0]), 3, 24) := by kernel_rfl

def lnCells (x : Nat × Nat × Nat) : List Value := [.int .i64 (x.1 : Nat), .int .i64 (x.2.1 : Nat), .int .i64 (x.2.2 : Nat)]
theorem lnCells_one (x : Nat × Nat × Nat) : ∀ u ∈ lnCells x, u.oneCell' = true := by
  intro u hu
  simp [lnCells] at hu
  rcases hu with rfl | rfl | rfl <;> rfl
theorem flatRow_at {α : Type} (f : α → List Value) (n : Nat) (hf : ∀ x, (f x).length = n) (L : List α) : ∀ (i j : Nat) (hi : i < L.length) (_ : j < n), (L.flatMap f)[i * n + j]? = (f L[i])[j]? := by
  induction L with
  | nil => intro i j hi; simp at hi
  | cons x L ih =>
    intro i j hi hj
    rw [List.flatMap_cons]
    cases i with
    | zero =>
      rw [List.getElem?_append_left (by rw [hf]; omega)]
      simp
    | succ i =>
      rw [List.getElem?_append_right (by rw [hf, Nat.succ_mul]; omega), hf]
      rw [show (i + 1) * n + j - n = i * n + j by rw [Nat.succ_mul]; omega]
      rw [ih i j (by simpa using hi) hj]
      rfl

set_option maxHeartbeats 4000000 in
theorem refall_any (s : ByteArray) (hs : s.size ≤ 1048576) (w : World) :
    Calls Tryd.prog 38 #[.string s] w fun e w' => ∃ v, e = .returned v ∧ w'.ownsRow w.heap.size 95 3 v (lnN (bs s)) ((linesL (bs s)).flatMap lnCells) ∧ Below w.heap.size w w' := by
  obtain ⟨i0, hi, hz0, hz1, hz2⟩ := info_parts info_line
  have HE := Lib.hid (fun c w => refend_any s (by omega) c w)
  have hNl := lnN_le (bs s)
  rw [← size_bs] at hNl
  obtain ⟨l, hl⟩ : ∃ l, bs s = l := ⟨_, rfl⟩
  have hlen : l.length = s.size := by rw [← hl, size_bs]
  rw [hl] at HE hNl ⊢
  have HLEN := Lib.hid hlen
  clear hl hlen
  go_enter Tryd.func38, Tryd.ntmps38
  go_wp2_with fail
  go_loopw [3, 4, 5] (fun v f i wr => ∃ (pre : List (Nat × Nat × Nat)) (f' i' : Nat), pre ++ lnRest l f' i' = linesL l ∧ f = .int .i64 (f' : Nat) ∧ i = .int .i64 (i' : Nat) ∧ i' ≤ s.size ∧ wr.ownsRow w.heap.size 95 3 v pre.length (pre.flatMap lnCells) ∧ Below w.heap.size w wr) (fun _ _ i _ => s.size - (intOf i).toNat)
  case atStart => exact ⟨[], 0, 0, rfl, rfl, rfl, Nat.zero_le _, World.ownsRow_nil _ _ _ _, Below.refl _ _⟩
  case round =>
    obtain ⟨pre, f', i', hpre, rfl, rfl, hi', hown, hb⟩ := hrel
    have hsz := hb.size
    by_cases hlt : i' < s.size
    · have hil : i' < l.length := by rw [HLEN.out]; exact hlt
      have hki : (i' : Int) < (s.size : Int) := by omega
      have HEE := Lib.hid (fun w => HE.out (i' : Nat) w)
      rw [endZ_nat, endRZ_nat hil] at HEE
      by_cases he : endN l i' = 0
      · rw [he, show nzB 0 = false from rfl] at HEE
        obtain ⟨k, hk⟩ : ∃ k, endR l i' = k := ⟨_, rfl⟩
        rw [hk] at HEE
        have HP := Lib.hid (show pre ++ lnRest l f' (i' + 1) = linesL l by rw [← ln_no hil he]; exact hpre)
        have HOWN := Lib.hid hown
        clear hil he hpre hk hown
        go_wp2_with (first | (go_at_call 51; (with_reducible refine (HEE.out _).mono ?_); rintro e w1 ⟨rfl, hb1⟩))
        exact ⟨⟨pre, f', i' + 1, HP.out, rfl, by go_num, hlt, owns_below HOWN.out hb1 (Nat.le_refl _), nx hb hb1⟩, by simp [intOf]; omega⟩
      · have hfit := end_fits he
        rw [HLEN.out] at hfit
        have hE := endR_yes he
        rw [hE] at HEE
        have hyes := ln_yes (f := f') he
        obtain ⟨x, hx⟩ : ∃ x, endN l i' = x := ⟨_, rfl⟩
        rw [hx] at HEE hfit hyes
        have hx1 : 1 ≤ x := by omega
        rw [show nzB x = true from bne_iff_ne.2 (by omega)] at HEE
        have HP := Lib.hid (show (pre ++ [(f', i', x)]) ++ lnRest l (i' + x) (i' + x) = linesL l by rw [List.append_assoc, ← hpre, hyes]; rfl)
        have hpl : pre.length < lnN l := by unfold lnN; rw [← hpre, hyes]; simp
        have hpl2 : pre.length ≤ 1048577 := by omega
        have HOWN := Lib.hid hown
        clear hil he hpre hE hyes hx hown hpl
        go_wp2_with (first
          | (go_at_call 51; (with_reducible refine (HEE.out _).mono ?_); rintro e w1 ⟨rfl, hb1⟩; have hown1 := owns_below HOWN.out hb1 (Nat.le_refl _); have hbb := nx hb hb1; have hszb := hbb.size)
          | (at_builtin; refine wpList_append_own _ rfl _ _ 92 rfl w.heap.size 95 i0 (.agg #[.int .i64 0, .int .i64 0, .int .i64 0]) 3 24 Tryd.underlying92 hi hz0 hz1 hz2 rfl (by decide) u3 _ _ rfl (hown1.alloc _) ⟨w1.heap.size, 0, none⟩ 1 1 (lnCells (f', i', x)) rfl (by simp [lnCells]) (cells_new _ _ _) (lnCells_one _) (by unfold maxLen; omega) (by omega) (by simp; omega) ?_; intro v' w2 hown' hgrow _))
        have hb3 : Below w.heap.size w w2 := (al hbb _).grown hgrow (by simp; omega) (fun q e => (hown1.lt q e).1)
        exact ⟨⟨pre ++ [(f', i', x)], i' + x, i' + x, HP.out, by go_num, by go_num, hfit, by rw [List.length_append, List.length_singleton, List.flatMap_append]; simpa using hown', hb3⟩, by simp [intOf]; omega⟩
    · obtain rfl : i' = s.size := by omega
      rw [ln_end (by rw [HLEN.out]; exact Nat.le_refl _), HLEN.out] at hpre
      have hpl : pre.length + 1 = lnN l := by unfold lnN; rw [← hpre]; simp
      have HP := Lib.hid hpre
      have HPL := Lib.hid hpl
      have hpl2 : pre.length ≤ 1048577 := by omega
      clear hpre hpl
      go_wp2_with (first
          | (at_builtin; refine wpList_append_own _ rfl _ _ 92 rfl w.heap.size 95 i0 (.agg #[.int .i64 0, .int .i64 0, .int .i64 0]) 3 24 Tryd.underlying92 hi hz0 hz1 hz2 rfl (by decide) u3 _ _ rfl (hown.alloc _) ⟨wr.heap.size, 0, none⟩ 1 1 (lnCells (f', s.size, 0)) rfl (by simp [lnCells]) (cells_new _ _ _) (lnCells_one _) (by unfold maxLen; omega) (by omega) (by simp; omega) ?_; intro v' w2 hown' hgrow _))
      have hb3 : Below w.heap.size w w2 := (al hb _).grown hgrow (by simp; omega) (fun q e => (hown.lt q e).1)
      go_ret
      refine ⟨_, rfl, ?_, hb3⟩
      rw [← HPL.out, ← HP.out, List.flatMap_append]
      simpa using hown'

/-- a row of lines that lies somewhere -/
def LinesAt (w : World) (ao : Option Addr) (l : Bs) : Prop :=
  ∀ k, k < lnN l → ∃ g, ao = some ⟨g, 0, none⟩ ∧ w.cell? ⟨g, k * 3, none⟩ = some (.int .i64 (lnA l k : Nat)) ∧ w.cell? ⟨g, k * 3 + 1, none⟩ = some (.int .i64 (lnB l k : Nat)) ∧ w.cell? ⟨g, k * 3 + 2, none⟩ = some (.int .i64 (lnE l k : Nat))
theorem LinesAt.below {w w' : World} {ao : Option Addr} {l : Bs} (h : LinesAt w ao l) {B : Nat} (hb : Below B w w') (hB : w.heap.size ≤ B) : LinesAt w' ao l := by
  intro i hi
  obtain ⟨g, e, h0, h1, h2⟩ := h i hi
  have hlt := World.block_lt_of_cell? w _ h0
  simp only at hlt
  exact ⟨g, e, (hb.cell (p := ⟨g, _, none⟩) (by show g < B; omega)).trans h0, (hb.cell (p := ⟨g, _, none⟩) (by show g < B; omega)).trans h1, (hb.cell (p := ⟨g, _, none⟩) (by show g < B; omega)).trans h2⟩
theorem LinesAt.owned {w : World} {base : Nat} {e : TypeId} {v : Value} {l : Bs} (h : w.ownsRow base e 3 v (lnN l) ((linesL l).flatMap lnCells)) : ∃ ao cap, v = .slice ao (lnN l) cap ∧ LinesAt w ao l := by
  rcases h.2 with ⟨rfl, h0⟩ | ⟨g, cap, cur, rfl, hg, hh, hn, hc, hs, ht⟩
  · have := lnN_pos l; omega
  · refine ⟨_, cap, rfl, fun i hi => ⟨g, rfl, ?_⟩⟩
    have hi' : i < (linesL l).length := hi
    have key : ∀ j, j < 3 → w.cell? ⟨g, i * 3 + j, none⟩ = (lnCells (lnA l i, lnB l i, lnE l i))[j]? := by
      intro j hj
      rw [h.cellAt (i * 3 + j) (by unfold lnN at *; omega), flatRow_at lnCells 3 (fun _ => rfl) _ _ _ hi' hj]
      have := ln_eta l i hi
      rw [List.getElem?_eq_getElem hi'] at this
      injection this with this
      rw [this]
    exact ⟨key 0 (by omega), key 1 (by omega), key 2 (by omega)⟩
theorem refall_at (s : ByteArray) (hs : s.size ≤ 1048576) (w : World) :
    Calls Tryd.prog 38 #[.string s] w fun e w' => ∃ ao cap, e = .returned (.slice ao (lnN (bs s)) cap) ∧ LinesAt w' ao (bs s) ∧ Below w.heap.size w w' := by
  refine (refall_any s hs w).mono ?_
  rintro e w' ⟨v, rfl, ho, hb⟩
  obtain ⟨ao, cap, rfl, hc⟩ := LinesAt.owned ho
  exact ⟨ao, cap, rfl, hc, hb⟩
end Go.Proofs.YticonolnagcakaaDoor

namespace Go.Proofs.YticonolnagcakaaDoor
open Go.RowKit
attribute [local go_sem] Oper.semAt_some

/-- a line, as a range takes it -/
def encLn (x : Nat × Nat × Nat) : Array Value := #[.agg #[.int .i64 (x.1 : Int), .int .i64 (x.2.1 : Int)], .int .i64 (x.2.2 : Int)]

set_option maxHeartbeats 1000000 in
theorem lall_in (s : ByteArray) (w : World) :
    Calls Tryd.prog 53 #[.string s] w fun e w' => e = .returned (.func (.func 62) #[] #[.pointer (some ⟨w.heap.size, 0, none⟩)]) ∧ w' = w.alloc (.cells #[.string s] 9) := by
  go_enter Tryd.func53, Tryd.ntmps53
  go_wp2
  go_ret
  exact ⟨rfl, rfl⟩

theorem take_of_split {α : Type} {pre rest L : List α} {x : α} (h : pre ++ x :: rest = L) : pre.length < L.length ∧ pre ++ [x] = L.take (pre.length + 1) := by
  subst h
  refine ⟨by simp, ?_⟩
  rw [List.take_append, List.take_of_length_le (by omega)]
  simp

set_option maxRecDepth 100000 in
set_option maxHeartbeats 4000000 in
theorem lall1_in (n : Nat) (hn : 1 ≤ n) (l B : Nat) (w0 : World) (hT : Tabs w0) (s : ByteArray) (hs : s.size ≤ 140737488351232) (J Jx : List (Nat × Nat × Nat) → World → Prop) (W : World) (hW : Below w0.heap.size w0 W) (hJ : AbidesFrom W.heap.size J)
    (hY : ∀ pre x W1, J pre W1 → pre.length < lnN (bs s) → YieldAt Fence.wide (n - 1) Tryd.prog l (encLn x) W1 fun e W' =>
      (e = .returned (.bool true) ∧ J (pre ++ [x]) W' ∧ KpW B w0.heap.size W1 W') ∨ (e = .returned (.bool false) ∧ Jx (pre ++ [x]) W'))
    (hB : W.cell? ⟨B, 0, none⟩ = some (.string s)) (h0 : J [] W) :
    CallsIn Fence.wide n Tryd.prog 62 #[.func (.yield l) #[] #[], .pointer (some ⟨B, 0, none⟩)] W fun e W' => (∃ v, e = .returned v) ∧
      ((∃ ys, ys = linesL (bs s) ∧ J ys W') ∨ (∃ pre, (∃ k, k ≤ lnN (bs s) ∧ pre = (linesL (bs s)).take k) ∧ Jx pre W')) := by
  refine callsIn_of_wp Tryd.func62 rfl trivial ?_ rfl
  simp only [Tryd.ntmps62, List.size_toArray, List.length_cons, List.length_nil, Nat.reduceAdd, Nat.reduceSub, Array.replicate_succ, Array.replicate_zero, List.push_toArray, List.append_toArray, List.nil_append, List.cons_append]
  have HJ := Lib.hid hJ
  have HY := Lib.hid hY
  have HT := Lib.hid hT
  have HE := Lib.hid (fun c w hT => lend_any s hs c w hT)
  obtain ⟨L, hL⟩ : ∃ L, bs s = L := ⟨_, rfl⟩
  have hlen : L.length = s.size := by rw [← hL, size_bs]
  rw [hL] at HY HE ⊢
  have HLEN := Lib.hid hlen
  clear hJ hY hT hL hlen
  have hBlt := World.block_lt_of_cell? W _ hB
  simp only at hBlt
  refine wpIn_wide.2 (wp_scope_straight ((wpIn_wide (n := n)).1 ?_))
  gi_wp2
  refine wpIn_label ?_
  gi_wp2
  gi_loopw [3, 4, 5, 6] (fun f i _ _ wr => ∃ f' i' : Nat, f = .int .i64 (f' : Nat) ∧ i = .int .i64 (i' : Nat) ∧ i' ≤ s.size ∧ wr.cell? ⟨B, 0, none⟩ = some (.string s) ∧ Below w0.heap.size w0 wr ∧ Hid (∃ pre, pre ++ lnRest L f' i' = linesL L ∧ J pre wr)) (fun _ i _ _ _ => s.size - (intOf i).toNat)
  case atStart => exact ⟨0, 0, rfl, rfl, Nat.zero_le _, hB, hW, Lib.hid ⟨[], rfl, h0⟩⟩
  case round =>
    obtain ⟨f', i', rfl, rfl, hi, hcB, hbw, hh⟩ := hrel
    by_cases hlt : i' < s.size
    · have hil : i' < L.length := by rw [HLEN.out]; exact hlt
      have hki : (i' : Int) < (s.size : Int) := by omega
      have HEE := Lib.hid (fun w hT => HE.out (i' : Nat) w hT)
      rw [endZ_nat] at HEE
      by_cases he : endN L i' = 0
      · rw [he, show nzB 0 = false from rfl] at HEE
        have HLN := Lib.hid (ln_no (f := f') hil he)
        clear hil he
        gi_wp2_with ((refine ⟨trivial, ?_⟩); gi_at_call 63; (with_reducible refine (callsIn_wide.2 (HEE.out _ (HT.out.below hbw (Nat.le_refl _)))).mono ?_); rintro e w1 ⟨rfl, hb1⟩; have hbb := nx hbw hb1; have hcB1 := cellKeep hcB hb1; have HG := Lib.hid (Below.grow hb1))
        exact ⟨⟨f', i' + 1, rfl, by go_num, hlt, hcB1, hbb, Lib.hid (by
          obtain ⟨pre, h1, h2⟩ := hh.out
          exact ⟨pre, by rw [← HLN.out]; exact h1, HJ.out _ _ w1 none h2 HG.out (fun r e => by cases e)⟩)⟩, by simp [intOf]; omega⟩
      · have HLN := Lib.hid (ln_yes (f := f') he)
        have hfit := end_fits he
        rw [HLEN.out] at hfit
        obtain ⟨x, hx⟩ : ∃ x, endN L i' = x := ⟨_, rfl⟩
        rw [hx] at HEE HLN hfit
        have hx1 : 1 ≤ x := by omega
        rw [show nzB x = true from bne_iff_ne.2 (by omega)] at HEE
        obtain ⟨pre, h1, h2⟩ := hh.out
        rw [HLN.out] at h1
        obtain ⟨hpl, htk⟩ := take_of_split h1
        have HPL := Lib.hid hpl
        have HTK := Lib.hid htk
        have HS := Lib.hid (show (pre ++ [(f', i', x)]) ++ lnRest L (i' + x) (i' + x) = linesL L by rw [List.append_assoc]; exact h1)
        have HJ2 := Lib.hid h2
        clear hil he hx h1 h2 hpl htk hh
        gi_wp2_with ((refine ⟨trivial, ?_⟩); gi_at_call 63; (with_reducible refine (callsIn_wide.2 (HEE.out _ (HT.out.below hbw (Nat.le_refl _)))).mono ?_); rintro e w1 ⟨rfl, hb1⟩; have hbb := nx hbw hb1; have hcB1 := cellKeep hcB hb1; obtain ⟨fn, tmps, assign, body, hy, hR⟩ := HY.out _ (f', i', x) w1 (HJ.out _ _ w1 none HJ2.out (Below.grow hb1) (fun r e => by cases e)) HPL.out; dsimp only [encLn] at hy)
        refine hR.mono ?_
        rintro e W3 (⟨rfl, hJ3, hk3⟩ | ⟨rfl, hJx3⟩)
        · have hb3 := hbb.trans hk3.1.2
          have hcB4 := (World.cell?_of_block (a := ⟨B, 0, none⟩) hk3.2).trans hcB1
          have HREL := Lib.hid (show ∃ pre, pre ++ lnRest L (i' + x) (i' + x) = linesL L ∧ J pre W3 from ⟨_, HS.out, hJ3⟩)
          clear hk3 hJ3
          gi_wp2
          exact ⟨⟨i' + x, i' + x, by go_num, by go_num, hfit, hcB4, hb3, HREL⟩, by simp [intOf]; omega⟩
        · gi_wp2
          rw [Exit.noGoto_ret]
          refine bodyPost_ret (results_none rfl _ _ _) rfl ?_
          exact ⟨⟨_, rfl⟩, .inr ⟨_, ⟨pre.length + 1, HPL.out, HTK.out⟩, hJx3⟩⟩
    · have hii : i' = s.size := by omega
      subst hii
      obtain ⟨pre, h1, h2⟩ := hh.out
      rw [ln_end (by rw [HLEN.out]; exact Nat.le_refl _), HLEN.out] at h1
      obtain ⟨hpl, htk⟩ := take_of_split h1
      have HPL := Lib.hid hpl
      have HTK := Lib.hid htk
      have HS := Lib.hid h1
      obtain ⟨fn, tmps, assign, body, hy, hR⟩ := HY.out _ (f', s.size, 0) wr h2 hpl
      dsimp only [encLn] at hy
      rw [show ((0 : Nat) : Int) = 0 from rfl] at hy
      clear h1 h2 hpl htk hh
      gi_wp2
      refine hR.mono ?_
      rintro e W3 (⟨rfl, hJ3, hk3⟩ | ⟨rfl, hJx3⟩)
      · have HJ3 := Lib.hid hJ3
        clear hJ3 hk3
        gi_wp2
        rw [Exit.noGoto_normal]
        go_end0
        exact ⟨⟨_, rfl⟩, .inl ⟨_, HS.out, HJ3.out⟩⟩
      · gi_wp2
        rw [Exit.noGoto_normal]
        go_end0
        exact ⟨⟨_, rfl⟩, .inr ⟨_, ⟨pre.length + 1, HPL.out, HTK.out⟩, hJx3⟩⟩

/-- All(s), as a range over it takes it. -/
theorem lall_stops (n : Nat) (hn : 1 ≤ n) (B : Nat) (w0 : World) (hT : Tabs w0) (s : ByteArray) (hs : s.size ≤ 140737488351232) (w : World) (hw : Below w0.heap.size w0 w) (hB : w.cell? ⟨B, 0, none⟩ = some (.string s)) :
    SeqStopsK Fence.wide n Tryd.prog 62 #[.pointer (some ⟨B, 0, none⟩)] encLn (KpW B w0.heap.size) (fun ys => ys = linesL (bs s)) (fun pre => ∃ k, k ≤ lnN (bs s) ∧ pre = (linesL (bs s)).take k) (lnN (bs s)) w :=
  fun l J Jx W hW hJ _ hY h0 => lall1_in n hn l B w0 hT s hs J Jx W (hw.trans (hW.mono hw.size)) hJ hY ((hW.cell (p := ⟨B, 0, none⟩) (World.block_lt_of_cell? w _ hB)).trans hB) h0
end Go.Proofs.YticonolnagcakaaDoor

namespace Go.Proofs.YticonolnagcakaaDoor
open Go.RowKit
attribute [local go_sem] Oper.semAt_some

/-- the line number k -/
def lnX (l : Bs) (k : Nat) : Nat × Nat × Nat := (linesL l)[k]?.getD (0, 0, 0)
theorem lnX_fits (l : Bs) (k : Nat) : (lnX l k).1 ≤ (lnX l k).2.1 ∧ (lnX l k).2.1 + (lnX l k).2.2 ≤ l.length ∧ (lnX l k).2.2 ≤ 3 := by
  by_cases h : k < lnN l
  · obtain ⟨h1, h2, h3, _⟩ := ln_get l k h
    exact ⟨h1, h2, h3⟩
  · unfold lnX
    rw [List.getElem?_eq_none (by unfold lnN at h; omega)]
    exact ⟨Nat.le_refl _, Nat.zero_le _, Nat.zero_le _⟩
theorem lnX_split {l : Bs} {m : Nat} {x : Nat × Nat × Nat} {rest : List (Nat × Nat × Nat)} (hm : m ≤ lnN l) (h : (linesL l).take m ++ x :: rest = linesL l) :
    m < lnN l ∧ lnX l m = x ∧ (linesL l).take (m + 1) ++ rest = linesL l := by
  have hl : ((linesL l).take m).length = m := by rw [List.length_take]; exact Nat.min_eq_left hm
  obtain ⟨h1, h2⟩ := take_of_split h
  rw [hl] at h1 h2
  refine ⟨h1, ?_, by rw [← h2, List.append_assoc]; exact h⟩
  unfold lnX
  have : (linesL l)[m]? = some x := by
    conv => lhs; rw [← h]
    rw [List.getElem?_append_right (by omega), hl, Nat.sub_self]
    rfl
  rw [this]
  rfl
/-- a line, as a range takes it, by its number -/
def encK (l : Bs) (k : Nat) : Array Value := encLn (lnX l k)

set_option maxRecDepth 100000 in
set_option maxHeartbeats 4000000 in
theorem lallk_in (n : Nat) (hn : 1 ≤ n) (l B : Nat) (w0 : World) (hT : Tabs w0) (s : ByteArray) (hs : s.size ≤ 140737488351232) (J Jx : List Nat → World → Prop) (W : World) (hW : Below w0.heap.size w0 W) (hJ : AbidesFrom W.heap.size J)
    (hY : ∀ pre x W1, J pre W1 → pre.length < lnN (bs s) → YieldAt Fence.wide (n - 1) Tryd.prog l (encK (bs s) x) W1 fun e W' =>
      (e = .returned (.bool true) ∧ J (pre ++ [x]) W' ∧ KpW B w0.heap.size W1 W') ∨ (e = .returned (.bool false) ∧ Jx (pre ++ [x]) W'))
    (hB : W.cell? ⟨B, 0, none⟩ = some (.string s)) (h0 : J [] W) :
    CallsIn Fence.wide n Tryd.prog 62 #[.func (.yield l) #[] #[], .pointer (some ⟨B, 0, none⟩)] W fun e W' => (∃ v, e = .returned v) ∧
      ((∃ ys, ys = List.range (lnN (bs s)) ∧ J ys W') ∨ (∃ pre, (∃ k, k ≤ lnN (bs s) ∧ pre = List.range k) ∧ Jx pre W')) := by
  refine callsIn_of_wp Tryd.func62 rfl trivial ?_ rfl
  simp only [Tryd.ntmps62, List.size_toArray, List.length_cons, List.length_nil, Nat.reduceAdd, Nat.reduceSub, Array.replicate_succ, Array.replicate_zero, List.push_toArray, List.append_toArray, List.nil_append, List.cons_append]
  have HJ := Lib.hid hJ
  have HY := Lib.hid hY
  have HT := Lib.hid hT
  have HE := Lib.hid (fun c w hT => lend_any s hs c w hT)
  obtain ⟨L, hL⟩ : ∃ L, bs s = L := ⟨_, rfl⟩
  have hlen : L.length = s.size := by rw [← hL, size_bs]
  rw [hL] at HY HE ⊢
  have HLEN := Lib.hid hlen
  clear hJ hY hT hL hlen
  have hBlt := World.block_lt_of_cell? W _ hB
  simp only at hBlt
  refine wpIn_wide.2 (wp_scope_straight ((wpIn_wide (n := n)).1 ?_))
  gi_wp2
  refine wpIn_label ?_
  gi_wp2
  gi_loopw [3, 4, 5, 6] (fun f i _ _ wr => ∃ f' i' : Nat, f = .int .i64 (f' : Nat) ∧ i = .int .i64 (i' : Nat) ∧ i' ≤ s.size ∧ wr.cell? ⟨B, 0, none⟩ = some (.string s) ∧ Below w0.heap.size w0 wr ∧ Hid (∃ m, m ≤ lnN L ∧ (linesL L).take m ++ lnRest L f' i' = linesL L ∧ J (List.range m) wr)) (fun _ i _ _ _ => s.size - (intOf i).toNat)
  case atStart => exact ⟨0, 0, rfl, rfl, Nat.zero_le _, hB, hW, Lib.hid ⟨0, Nat.zero_le _, rfl, h0⟩⟩
  case round =>
    obtain ⟨f', i', rfl, rfl, hi, hcB, hbw, hh⟩ := hrel
    by_cases hlt : i' < s.size
    · have hil : i' < L.length := by rw [HLEN.out]; exact hlt
      have hki : (i' : Int) < (s.size : Int) := by omega
      have HEE := Lib.hid (fun w hT => HE.out (i' : Nat) w hT)
      rw [endZ_nat] at HEE
      by_cases he : endN L i' = 0
      · rw [he, show nzB 0 = false from rfl] at HEE
        have HLN := Lib.hid (ln_no (f := f') hil he)
        clear hil he
        gi_wp2_with ((refine ⟨trivial, ?_⟩); gi_at_call 63; (with_reducible refine (callsIn_wide.2 (HEE.out _ (HT.out.below hbw (Nat.le_refl _)))).mono ?_); rintro e w1 ⟨rfl, hb1⟩; have hbb := nx hbw hb1; have hcB1 := cellKeep hcB hb1; have HG := Lib.hid (Below.grow hb1))
        exact ⟨⟨f', i' + 1, rfl, by go_num, hlt, hcB1, hbb, Lib.hid (by
          obtain ⟨m, hm, h1, h2⟩ := hh.out
          exact ⟨m, hm, by rw [← HLN.out]; exact h1, HJ.out _ _ w1 none h2 HG.out (fun r e => by cases e)⟩)⟩, by simp [intOf]; omega⟩
      · have HLN := Lib.hid (ln_yes (f := f') he)
        have hfit := end_fits he
        rw [HLEN.out] at hfit
        obtain ⟨x, hx⟩ : ∃ x, endN L i' = x := ⟨_, rfl⟩
        rw [hx] at HEE HLN hfit
        have hx1 : 1 ≤ x := by omega
        rw [show nzB x = true from bne_iff_ne.2 (by omega)] at HEE
        obtain ⟨m, hm, h1, h2⟩ := hh.out
        rw [HLN.out] at h1
        obtain ⟨hpl, hxm, hrest⟩ := lnX_split hm h1
        have HPL := Lib.hid hpl
        have HPL' := Lib.hid (show (List.range m).length < lnN L by rw [List.length_range]; exact hpl)
        have HXM := Lib.hid hxm
        have HS := Lib.hid hrest
        have HJ2 := Lib.hid h2
        clear hil he hx h1 h2 hpl hxm hrest hh hm
        gi_wp2_with ((refine ⟨trivial, ?_⟩); gi_at_call 63; (with_reducible refine (callsIn_wide.2 (HEE.out _ (HT.out.below hbw (Nat.le_refl _)))).mono ?_); rintro e w1 ⟨rfl, hb1⟩; have hbb := nx hbw hb1; have hcB1 := cellKeep hcB hb1; obtain ⟨fn, tmps, assign, body, hy, hR⟩ := HY.out _ m w1 (HJ.out _ _ w1 none HJ2.out (Below.grow hb1) (fun r e => by cases e)) HPL'.out; rw [show encK L m = #[.agg #[.int .i64 (f' : Nat), .int .i64 (i' : Nat)], .int .i64 (x : Nat)] by unfold encK; rw [HXM.out]; rfl] at hy)
        refine hR.mono ?_
        rintro e W3 (⟨rfl, hJ3, hk3⟩ | ⟨rfl, hJx3⟩)
        · have hb3 := hbb.trans hk3.1.2
          have hcB4 := (World.cell?_of_block (a := ⟨B, 0, none⟩) hk3.2).trans hcB1
          have HREL := Lib.hid (show ∃ m, m ≤ lnN L ∧ (linesL L).take m ++ lnRest L (i' + x) (i' + x) = linesL L ∧ J (List.range m) W3 from ⟨m + 1, HPL.out, HS.out, by rw [List.range_succ]; exact hJ3⟩)
          clear hk3 hJ3
          gi_wp2
          exact ⟨⟨i' + x, i' + x, by go_num, by go_num, hfit, hcB4, hb3, HREL⟩, by simp [intOf]; omega⟩
        · gi_wp2
          rw [Exit.noGoto_ret]
          refine bodyPost_ret (results_none rfl _ _ _) rfl ?_
          exact ⟨⟨_, rfl⟩, .inr ⟨_, ⟨m + 1, HPL.out, (List.range_succ).symm⟩, hJx3⟩⟩
    · have hii : i' = s.size := by omega
      subst hii
      obtain ⟨m, hm, h1, h2⟩ := hh.out
      rw [ln_end (by rw [HLEN.out]; exact Nat.le_refl _), HLEN.out] at h1
      obtain ⟨hpl, hxm, hrest⟩ := lnX_split hm h1
      have HPL := Lib.hid hpl
      have HS := Lib.hid (show List.range m ++ [m] = List.range (lnN L) by
        have := congrArg List.length hrest
        rw [List.append_nil, List.length_take] at this
        rw [← List.range_succ]
        congr 1
        unfold lnN at hpl ⊢
        omega)
      obtain ⟨fn, tmps, assign, body, hy, hR⟩ := HY.out _ m wr h2 (by rw [List.length_range]; exact hpl)
      rw [show encK L m = #[.agg #[.int .i64 (f' : Nat), .int .i64 (s.size : Nat)], .int .i64 0] by unfold encK; rw [hxm]; rfl] at hy
      clear h1 h2 hpl hxm hrest hh hm
      gi_wp2
      refine hR.mono ?_
      rintro e W3 (⟨rfl, hJ3, hk3⟩ | ⟨rfl, hJx3⟩)
      · have HJ3 := Lib.hid hJ3
        clear hJ3 hk3
        gi_wp2
        rw [Exit.noGoto_normal]
        go_end0
        exact ⟨⟨_, rfl⟩, .inl ⟨_, HS.out, HJ3.out⟩⟩
      · gi_wp2
        rw [Exit.noGoto_normal]
        go_end0
        exact ⟨⟨_, rfl⟩, .inr ⟨_, ⟨m + 1, HPL.out, (List.range_succ).symm⟩, hJx3⟩⟩

/-- All(s), as a range over it takes it, by the lines' numbers. -/
theorem lallk_stops (n : Nat) (hn : 1 ≤ n) (B : Nat) (w0 : World) (hT : Tabs w0) (s : ByteArray) (hs : s.size ≤ 140737488351232) (w : World) (hw : Below w0.heap.size w0 w) (hB : w.cell? ⟨B, 0, none⟩ = some (.string s)) :
    SeqStopsK Fence.wide n Tryd.prog 62 #[.pointer (some ⟨B, 0, none⟩)] (encK (bs s)) (KpW B w0.heap.size) (fun ys => ys = List.range (lnN (bs s))) (fun pre => ∃ k, k ≤ lnN (bs s) ∧ pre = List.range k) (lnN (bs s)) w :=
  fun l J Jx W hW hJ _ hY h0 => lallk_in n hn l B w0 hT s hs J Jx W (hw.trans (hW.mono hw.size)) hJ hY ((hW.cell (p := ⟨B, 0, none⟩) (World.block_lt_of_cell? w _ hB)).trans hB) h0
end Go.Proofs.YticonolnagcakaaDoor

namespace Go.Proofs.YticonolnagcakaaDoor
open Go.RowKit

theorem atL_lt (l : Bs) {i j : Nat} (h : i < j) (hj : j ≤ countN l) : atN l i < atN l j := by
  induction j with
  | zero => omega
  | succ j ih =>
    have hs := atN_succ l j (by omega)
    have hw := (tk_wid l ((tk l)[j]?.getD (0, 0)) (by rw [List.getElem?_eq_getElem (show j < (tk l).length from hj)]; exact List.getElem_mem _)).1
    by_cases e : i = j
    · subst e; omega
    · have := ih (by omega) (by omega); omega
theorem atL_le (l : Bs) {i j : Nat} (h : i ≤ j) (hj : j ≤ countN l) : atN l i ≤ atN l j := by
  rcases Nat.lt_or_ge i j with h1 | h1
  · exact Nat.le_of_lt (atL_lt l h1 hj)
  · obtain rfl : i = j := by omega
    exact Nat.le_refl _
/-- the character that has a place -/
theorem of_is {l : Bs} {c m : Nat} (hm : m < countN l) (h1 : atN l m ≤ c) (h2 : c < atN l (m + 1)) : ofT (tk l) c = m := by
  have hc : c < l.length := by have := (cut_at l (m + 1) hm).1; omega
  obtain ⟨n, hn, e, a1, a2, _⟩ := of_find l c hc
  rw [e]
  rcases Nat.lt_or_ge n m with h | h
  · have := atL_le l (show n + 1 ≤ m by omega) (by omega); omega
  · rcases Nat.lt_or_ge m n with h3 | h3
    · have := atL_le l (show m + 1 ≤ n by omega) (by omega); omega
    · omega
/-- a border is where a character begins -/
theorem border_at {l : Bs} {p : Nat} (hp : Border l p) : ∃ m, m ≤ countN l ∧ atN l m = p ∧ ofT (tk l) p = m := by
  obtain ⟨done, h⟩ := hp
  refine ⟨done.length, h.le_count, h.at', ?_⟩
  have := (of_at l done.length h.le_count).2
  rwa [h.at'] at this
theorem seg_drop (l : Bs) (m : Nat) (hm : m ≤ countN l) : tk (l.drop (atN l m)) = (tk l).drop m := by
  have h := (cut_at l m hm).2.1
  have h2 := congrArg (List.drop m) h
  rw [List.drop_append_of_le_length (by rw [List.length_take]; unfold countN at hm; omega), List.drop_take_self, List.nil_append] at h2
  exact h2.symm
theorem seg_at (l : Bs) (m k : Nat) (hm : m ≤ countN l) : atN l m + atN (l.drop (atN l m)) k = atN l (m + k) := by
  unfold atN
  rw [show wsum ((tk l).take m) = atN l m from rfl, seg_drop l m hm, List.take_add, wsum_append]
  rfl
/-- the characters of a piece between two borders -/
theorem seg_tk (l : Bs) (a b : Nat) (hab : a ≤ b) (hb : b ≤ countN l) : tk ((l.drop (atN l a)).take (atN l b - atN l a)) = ((tk l).drop a).take (b - a) := by
  have h1 := seg_drop l a (by omega)
  have h2 := seg_at l a (b - a) (by omega)
  rw [show a + (b - a) = b by omega] at h2
  have hc : b - a ≤ countN (l.drop (atN l a)) := by unfold countN; rw [h1, List.length_drop]; unfold countN at hb; omega
  have h3 := took_at (l.drop (atN l a)) (b - a) hc
  rw [show atN (l.drop (atN l a)) (b - a) = atN l b - atN l a by omega, h1] at h3
  exact h3
theorem seg_count (l : Bs) (a b : Nat) (hab : a ≤ b) (hb : b ≤ countN l) : countN ((l.drop (atN l a)).take (atN l b - atN l a)) = b - a := by
  unfold countN
  rw [seg_tk l a b hab hb, List.length_take, List.length_drop]
  unfold countN at hb
  omega
theorem seg_in (l : Bs) (a b k : Nat) (hab : a ≤ b) (hb : b ≤ countN l) (hk : k ≤ b - a) : atN l a + atN ((l.drop (atN l a)).take (atN l b - atN l a)) k = atN l (a + k) := by
  rw [← seg_at l a k (by omega)]
  congr 1
  unfold atN
  rw [show wsum ((tk l).take a) = atN l a from rfl, show wsum ((tk l).take b) = atN l b from rfl, seg_tk l a b hab hb, seg_drop l a (by omega), List.take_take, Nat.min_eq_left hk]

/-! ### The line of a place -/
/-- k is the number of the line that has the place c -/
def IsLn (l : Bs) (c k : Nat) : Prop := k < lnN l ∧ lnA l k ≤ c ∧ (k + 1 < lnN l → c < lnA l (k + 1))
def lnTo (l : Bs) (c : Nat) : Nat → Nat
  | 0 => 0
  | k + 1 => if lnA l (k + 1) ≤ c then k + 1 else lnTo l c k
def lnOf (l : Bs) (c : Nat) : Nat := lnTo l c (lnN l - 1)
theorem lnTo_is (l : Bs) (c : Nat) : ∀ k, k < lnN l → lnTo l c k ≤ k ∧ lnA l (lnTo l c k) ≤ c ∧ ∀ j, lnTo l c k < j → j ≤ k → c < lnA l j
  | 0, _ => ⟨Nat.le_refl _, by unfold lnTo; rw [lnA_zero]; omega, fun j h1 h2 => by unfold lnTo at h1; omega⟩
  | k + 1, hk => by
    unfold lnTo
    by_cases h : lnA l (k + 1) ≤ c
    · rw [if_pos h]; exact ⟨Nat.le_refl _, h, fun j h1 h2 => by omega⟩
    · rw [if_neg h]
      obtain ⟨h1, h2, h3⟩ := lnTo_is l c k (by omega)
      refine ⟨by omega, h2, fun j h4 h5 => ?_⟩
      by_cases e : j = k + 1
      · rw [e]; omega
      · exact h3 j h4 (by omega)
theorem lnOf_is (l : Bs) (c : Nat) : IsLn l c (lnOf l c) := by
  have hp := lnN_pos l
  obtain ⟨h1, h2, h3⟩ := lnTo_is l c (lnN l - 1) (by omega)
  unfold lnOf
  exact ⟨by omega, h2, fun h => h3 _ (Nat.lt_succ_self _) (by omega)⟩
theorem isLn_unique {l : Bs} {c j k : Nat} (h : IsLn l c j) (g : IsLn l c k) : j = k := by
  obtain ⟨a1, a2, a3⟩ := h
  obtain ⟨b1, b2, b3⟩ := g
  rcases Nat.lt_or_ge j k with h1 | h1
  · have h2 := a3 (by omega)
    by_cases e : j + 1 = k
    · rw [e] at h2; omega
    · have := (lnA_lt l (show j + 1 < k by omega) b1).2; omega
  · rcases Nat.lt_or_ge k j with h3 | h3
    · have h2 := b3 (by omega)
      by_cases e : k + 1 = j
      · rw [e] at h2; omega
      · have := (lnA_lt l (show k + 1 < j by omega) a1).2; omega
    · omega
theorem lnOf_eq {l : Bs} {c k : Nat} (h : IsLn l c k) : lnOf l c = k := isLn_unique (lnOf_is l c) h
/-- the column of a place -/
def colOf (l : Bs) (c : Nat) : Nat := ofT (tk l) c - ofT (tk l) (lnA l (lnOf l c))

/-- is a line passed on the way to a place? -/
def Skip (l : Bs) (c k : Nat) : Prop := (lnX' l k).2.2 ≠ 0 ∧ (lnX' l k).2.1 + (lnX' l k).2.2 ≤ c
where lnX' (l : Bs) (k : Nat) : Nat × Nat × Nat := (linesL l)[k]?.getD (0, 0, 0)
theorem skip_iff {l : Bs} {c k : Nat} : Skip l c k ↔ lnE l k ≠ 0 ∧ lnB l k + lnE l k ≤ c := Iff.rfl
theorem skip_line {l : Bs} {c k : Nat} (hk : k < lnN l) (h1 : ∀ j, j < k → Skip l c j) (h2 : ¬ Skip l c k) : IsLn l c k := by
  rw [skip_iff] at h2
  refine ⟨hk, ?_, fun h => ?_⟩
  · cases k with
    | zero => rw [lnA_zero]; omega
    | succ k =>
      have h3 := skip_iff.1 (h1 k (by omega))
      have h4 := (ln_get l k (by omega)).2.2.2.2.2.2 hk
      omega
  · have h4 := (ln_get l k (by omega)).2.2.2.2.2.2 h
    omega
theorem skip_not_all (l : Bs) (c : Nat) : ¬ ∀ j, j < lnN l → Skip l c j := by
  intro h
  have hp := lnN_pos l
  have h1 := skip_iff.1 (h (lnN l - 1) (by omega))
  have h2 := (ln_get l (lnN l - 1) (by omega)).2.2.2.2.2.1 (by omega)
  omega

/-- so many characters of a piece begin at or ahead of a place -/
def CntIs (S : Bs) (f c j : Nat) : Prop := j ≤ countN S ∧ (j = 0 ∨ f + atN S (j - 1) ≤ c) ∧ (j = countN S ∨ c < f + atN S j)
/-- the piece of a text from a place on up to another -/
def pieceL (l : Bs) (f t : Nat) : Bs := (l.drop f).take (t - f)
def decN (l : Bs) (c : Nat) : Nat := if c < l.length then 1 else 0
/-- The column, as the program counts it. -/
theorem col_cnt {l : Bs} {c k j : Nat} (hc : c ≤ l.length) (hk : IsLn l c k) (hj : CntIs (pieceL l (lnA l k) (lnB l k + lnE l k)) (lnA l k) c j) : (j : Int) - (decN l c : Nat) = (colOf l c : Nat) := by
  obtain ⟨h1, h2, h3⟩ := hk
  obtain ⟨g1, g2, g3, g4, g5, g6, g7⟩ := ln_get l k h1
  obtain ⟨a, ha, hA, hoA⟩ := border_at (lnA_border l k h1)
  have hBb : Border l (lnB l k + lnE l k) := by
    by_cases e : k + 1 < lnN l
    · rw [← (g7 e).2]; exact lnA_border l (k + 1) e
    · have := g6 (by omega)
      rw [this.1, this.2]
      exact ⟨_, Cut.full l⟩
  obtain ⟨b, hb, hB, hoB⟩ := border_at hBb
  have hab : a ≤ b := by
    rcases Nat.lt_or_ge b a with h | h
    · have := atL_lt l h ha; omega
    · exact h
  unfold colOf
  rw [lnOf_eq ⟨h1, h2, h3⟩, hoA]
  obtain ⟨j1, j2, j3⟩ := hj
  unfold pieceL at j1 j2 j3
  rw [← hA, ← hB] at j1 j2 j3
  rw [seg_count l a b hab hb] at j1 j3
  have hs := fun k hk => seg_in l a b k hab hb hk
  have e2 : j = 0 ∨ atN l (a + (j - 1)) ≤ c := by
    rcases j2 with h | h
    · exact .inl h
    · right; rw [hs (j - 1) (by omega)] at h; exact h
  have e3 : j = b - a ∨ c < atN l (a + j) := by
    rcases j3 with h | h
    · exact .inl h
    · right; rw [hs j (by omega)] at h; exact h
  unfold decN
  by_cases hcl : c < l.length
  · rw [if_pos hcl]
    have hcB : j = b - a → c < atN l b := by
      intro _
      rw [hB]
      by_cases e : k + 1 < lnN l
      · rw [← (g7 e).2]; exact h3 e
      · have := g6 (by omega); omega
    have hj1 : 1 ≤ j := by
      rcases Nat.eq_zero_or_pos j with h | h
      · subst h
        rcases e3 with e | e
        · have := hcB e
          have hba : b = a := by omega
          rw [hba] at this
          omega
        · rw [Nat.add_zero] at e; omega
      · exact h
    have hlt : c < atN l (a + j) := by
      rcases e3 with e | e
      · have := hcB e
        rw [show a + j = b by omega]; exact this
      · exact e
    have := of_is (l := l) (c := c) (m := a + (j - 1)) (by omega) (by rcases e2 with e | e; omega; exact e) (by rw [show a + (j - 1) + 1 = a + j by omega]; exact hlt)
    rw [this]
    omega
  · rw [if_neg hcl]
    obtain rfl : c = l.length := by omega
    have hlast : ¬ k + 1 < lnN l := fun e => by have := h3 e; have := lnA_le l (k + 1) e; omega
    have := g6 (by omega)
    have hbN : b = countN l := by
      rcases Nat.lt_or_ge b (countN l) with h | h
      · have := atL_lt l h (Nat.le_refl _)
        rw [atN_full] at this
        omega
      · omega
    rw [ofT_end]
    rcases e3 with e | e
    · omega
    · have := (cut_at l (a + j) (by omega)).1; omega
end Go.Proofs.YticonolnagcakaaDoor

namespace Go.Proofs.YticonolnagcakaaDoor
open Go.RowKit
attribute [local go_sem] Oper.semAt_some

theorem keepsFrom_far {B M : Nat} {W X Y : World} (h : KeepsFrom B W X) (hg : X.grownBy Y (some M)) (hM : W.heap.size ≤ M) : KeepsFrom B W Y :=
  ⟨Nat.le_trans h.size hg.size, fun k o hB hk ho => by
    have h1 := h.same k o hB hk ho
    have h2 := (Array.getElem?_eq_some_iff.1 hk).1
    exact (hg.block k (by have := h.size; omega) (fun e => by injection e with e; omega)).trans h1⟩
/-- a frame with a line's variables in it -/
def LkAt (l : Bs) (T : TypeId) (B : Nat) (f : Nat → Nat → Act) (k : Nat) (a : Act) (W : World) : Prop := ∃ p, B ≤ p ∧ Two W p T (.int .i64 ((lnX l k).1 : Nat)) (.int .i64 ((lnX l k).2.1 : Nat)) ∧ a = f k p
theorem lkAt_own (l : Bs) (T : TypeId) (B : Nat) (f : Nat → Nat → Act) (k : Nat) (a : Act) (C : Nat) : OwnFrom C (fun (_ : Unit) W => LkAt l T B f k a W) := by
  rintro s W W' row ⟨p, h1, h2, h3⟩ hg hr
  exact ⟨p, h1, two_own (β := Unit) p T (fun _ => .int .i64 ((lnX l k).1 : Nat)) (fun _ => .int .i64 ((lnX l k).2.1 : Nat)) () W W' row h2 hg (fun r e => (hr r e).2), h3⟩

end Go.Proofs.YticonolnagcakaaDoor

namespace Go.Proofs.YticonolnagcakaaDoor
open Go.RowKit
attribute [local go_sem] Oper.semAt_some

theorem info_int : (Tryd.prog.info? 3).map (fun i => (i.zero, i.size, i.bytes)) = some (some (.int .i64 0), 1, 8) := by kernel_rfl

/-- 'out = append(out, ..)', out in a box below the row's base: what stands behind the store. -/
theorem app_box {W w1 : World} {base B n₀ : Nat} {t e : TypeId} {size : Nat} {v v' : Value} {k m : Nat} {xs ys : List Value} {tmp : Obj}
    (hv : Boxed W B t v) (hBb : B < base) (hrow : W.ownsRow base e size v k xs) (hbase : base ≤ W.heap.size) (hn : n₀ ≤ B)
    (hown' : w1.ownsRow base e size v' m ys) (hgrow : (W.alloc tmp).grownBy w1 v.ownBlock) :
    Boxed w1 B t v ∧ Boxed (w1.setCell ⟨B, 0, none⟩ v') B t v' ∧ (w1.setCell ⟨B, 0, none⟩ v').ownsRow base e size v' m ys ∧ KeepsOthers W (w1.setCell ⟨B, 0, none⟩ v') ∧ Below n₀ W (w1.setCell ⟨B, 0, none⟩ v') ∧
    (∀ B' t' u, B' < base → B' ≠ B → Boxed W B' t' u → Boxed (w1.setCell ⟨B, 0, none⟩ v') B' t' u) := by
  have hne : ∀ j, j < base → some j ≠ v.ownBlock := fun j hj e => by have := (hrow.lt j e.symm).1; omega
  have hv1 : Boxed w1 B t v := (hv.alloc tmp).kept hgrow (hne B hBb)
  refine ⟨hv1, hv1.set v', hown'.kept (grownBy_setCell' w1 B v') (.inr (fun e => by have := (hown'.lt B e).1; omega)), ?_, ?_, ?_⟩
  · refine ((KeepsOthers.alloc W tmp).trans (KeepsOthers.of_grownBy hgrow fun j o ej hj => ?_)).trans (KeepsOthers.setCell _ _ _)
    rcases (hrow.alloc tmp).2 with ⟨rfl, _⟩ | ⟨g, cap, cur, rfl, _, hgb, _⟩
    · simp [Value.ownBlock] at ej
    · obtain rfl : g = j := by simpa [Value.ownBlock] using ej
      rw [hgb] at hj; cases hj; rfl
  · refine (((Below.refl n₀ W).alloc (by omega) tmp).grown hgrow (by rw [World.size_alloc]; omega) fun j ej => ?_).setCell (p := ⟨B, 0, none⟩) hn v'
    have := (hrow.lt j ej).1
    omega
  · intro B' t' u hB' hBB hb
    exact ((hb.alloc tmp).kept hgrow (hne B' hB')).kept (grownBy_setCell' w1 B v') (fun e => hBB (by injection e))

theorem wrTo_prefix (l : Bs) {a b : Nat} (h : a ≤ b) : wrTo l a <+: wrTo l b := by
  induction b with
  | zero => obtain rfl : a = 0 := by omega
            exact List.prefix_refl _
  | succ b ih =>
    by_cases e : a = b + 1
    · subst e; exact List.prefix_refl _
    · refine (ih (by omega)).trans ?_
      cases hw : isWrong l b
      · rw [wrTo_no l b hw]; exact List.prefix_refl _
      · rw [wrTo_yes l b hw]; exact List.prefix_append _ _

end Go.Proofs.YticonolnagcakaaDoor

namespace Go.Proofs.YticonolnagcakaaDoor
open Go.RowKit

/-- no operation of the list is a defer statement -/
def noDefer (l : List Oper) : Bool := l.all fun o => match o.op with | .defer _ => false | _ => true
theorem noDefer_at {l : List Oper} (h : noDefer l = true) (i : Nat) (o : Oper) (ho : l.toArray[i]? = some o) : ∀ c, o.op ≠ .defer c := by
  intro c hc
  have hm : o ∈ l := by
    have : l[i]? = some o := by simpa using ho
    exact List.mem_of_getElem? this
  have := (List.all_eq_true.1 h) o hm
  rw [hc] at this
  simp at this

/-- The fence's round does not matter to an operation that is no defer statement. -/
theorem upon_round {F : Fence} {q n : Nat} {P : Program} {o : Oper} {a : Act} {K : Act → World → Prop} {Q : Exit → Act → World → Prop} (r : Result Next) (h : o.uponIn F n P a K Q r) : o.uponIn (F.inRound q) n P a K Q r := by
  cases r with
  | ok x w' => cases x <;> exact h
  | halt x w' => cases x <;> exact h
theorem op_round {F : Fence} {q n : Nat} {P : Program} {ops : Array Oper} {Q : Exit → Act → World → Prop} {i : Nat} {K K' : Act → World → Prop} {a : Act} {w : World} (hnd : ∀ (i : Nat) (o : Oper), ops[i]? = some o → ∀ c, o.op ≠ .defer c)
    (hK : ∀ a w, K a w → K' a w) (h : wpOpIn F n P ops Q i K a w) : wpOpIn (F.inRound q) n P ops Q i K' a w := by
  cases ho : ops[i]? with
  | none =>
    simp only [wpOpIn, ho] at h ⊢
    exact hK _ _ h
  | some o =>
    simp only [wpOpIn, ho] at h ⊢
    split at h
    · rename_i hw
      rw [if_pos hw]
      have h' := Oper.wpIn_mono hK h
      refine ⟨h'.1, ?_⟩
      have h2 := h'.2
      rw [Oper.semAt_plain _ _ _ (hnd _ _ ho)] at h2 ⊢
      exact upon_round _ h2
    · rename_i hw
      rw [if_neg hw]
      exact ⟨h.1, hK _ _ h.2⟩
theorem any_round {F : Fence} {q n : Nat} {P : Program} {md : Region.Mode} {ops : Array Oper} {Q : Exit → Act → World → Prop} (hnd : ∀ (i : Nat) (o : Oper), ops[i]? = some o → ∀ c, o.op ≠ .defer c) :
    ∀ (fuel : Nat) (listed : Array Bool) (a : Act) (w : World), wpAnyIn F n P md ops Q fuel listed a w → wpAnyIn (F.inRound q) n P md ops Q fuel listed a w
  | 0, _, _, _, h => h
  | fuel + 1, _, _, _, h => ⟨h.1, fun i hi => op_round hnd (fun a w => any_round hnd fuel _ a w) (h.2 i hi)⟩

/-- **The walk in the order in which it stands serves every order, within a round too.** -/
theorem quiet_round {q n : Nat} {P : Program} {id : Nat} {Q : Exit → Act → World → Prop} {a : Act} {w : World} {l : List Oper} (hnd : noDefer l = true) (hm : P.follows .mixedOrders = true) (hB : Region.lexB .any l.toArray = true)
    (h : wpQuietIn Fence.wide n P l.toArray (fun w' => ∃ n, w' = w.drewN n) (fun a' => ∀ w', (∃ n, w' = w.drewN n) → Q .normal a' w') l a) : (Code.region id l.toArray true).wpIn (Fence.wide.inRound q) n P Q a w := by
  simp only [Region.lexB, Bool.and_eq_true] at hB
  refine wpIn_region_any hm (any_round (noDefer_at hnd) _ _ _ _ (wpAnyIn_of_quiet (C := fun w' => ∃ n, w' = w.drewN n) (Q := fun a' => ∀ w', (∃ n, w' = w.drewN n) → Q .normal a' w') rfl (fun _ w' hw' h => h w' hw') _ _ _ _ ⟨1, rfl⟩ ?_))
  have := wpAnyQIn_lex (F := Fence.wide) (n := n) (C := fun w' => ∃ n, w' = w.drewN n) (md := .any) hB.1 l 0 (Array.replicate l.toArray.size false) a (by simp) (by simpa using hB.2) h
  simpa using this
end Go.Proofs.YticonolnagcakaaDoor

namespace Go.Proofs.YticonolnagcakaaDoor
open Go.RowKit

theorem rows_wide {n : Nat} {P : Program} {row : String} {args : Array Value} {w : World} {R : Value → World → Prop} (h : Rows P row args w R) : RowsIn Fence.wide n P row args w R :=
  fun c cs _ => let ⟨v, w', r, s⟩ := h c cs; ⟨v, w', r, stepsIn_wide.2 s⟩
theorem upon_wide {n : Nat} {P : Program} {o : Oper} {a : Act} {K : Act → World → Prop} {Q : Exit → Act → World → Prop} (r : Result Next) (h : o.upon P a K Q r) : o.uponIn Fence.wide n P a K Q r := by
  cases r with
  | ok x w' =>
    cases x with
    | enter f args => exact ⟨(fun e => by cases e), callsIn_wide.2 h⟩
    | row row args => exact ⟨(fun e => by cases e), rows_wide h⟩
    | round l f tmps assign body => exact h.elim
    | value v => exact h
    | skip => exact h
    | defer d => exact h
    | _ => exact h
  | halt x w' => cases x <;> exact h
theorem op_wide {n : Nat} {P : Program} {ops : Array Oper} {Q : Exit → Act → World → Prop} {i : Nat} {K K' : Act → World → Prop} {a : Act} {w : World} (hL : ¬ LetsOut Q) (hK : ∀ a w, K a w → K' a w)
    (h : wpOp P ops Q i K a w) : wpOpIn Fence.wide n P ops Q i K' a w := by
  cases ho : ops[i]? with
  | none =>
    simp only [wpOp, wpOpIn, ho] at h ⊢
    exact hK _ _ h
  | some o =>
    simp only [wpOp, wpOpIn, ho] at h ⊢
    split at h
    · rename_i hw
      rw [if_pos hw]
      rcases h with h | h
      · refine Oper.wpIn_mono hK ⟨fun _ _ => trivial, upon_wide _ h⟩
      · exact absurd h.2 hL
    · rename_i hw
      rw [if_neg hw]
      exact ⟨fun _ _ => trivial, hK _ _ h⟩
theorem any_wide {n : Nat} {P : Program} {md : Region.Mode} {ops : Array Oper} {Q : Exit → Act → World → Prop} (hL : ¬ LetsOut Q) :
    ∀ (fuel : Nat) (listed : Array Bool) (a : Act) (w : World), wpAny P md ops Q fuel listed a w → wpAnyIn Fence.wide n P md ops Q fuel listed a w
  | 0, _, _, _, h => h
  | fuel + 1, _, _, _, h => ⟨h.1, fun i hi => op_wide hL (fun a w => any_wide hL fuel _ a w) (h.2 i hi)⟩
/-- **The held walk of a drawn region, within a round.** -/
theorem held_round {q n : Nat} {P : Program} {id : Nat} {Q : Exit → Act → World → Prop} {a : Act} {w : World} {l : List Oper} {S : World → Prop} (hL : ¬ LetsOut Q) (hnd : noDefer l = true) (hm : P.follows .mixedOrders = true)
    (h : wpAnyH P .any l.toArray Q S l.toArray.size (Array.replicate l.toArray.size false) a w.drew) : (Code.region id l.toArray true).wpIn (Fence.wide.inRound q) n P Q a w :=
  wpIn_region_any hm (any_round (noDefer_at hnd) _ _ _ _ (any_wide hL _ _ _ _ (wpAny_of_held _ _ _ _ h)))
end Go.Proofs.YticonolnagcakaaDoor

namespace Go.Proofs.YticonolnagcakaaDoor
open Go.RowKit
attribute [local go_sem] Oper.semAt_some

theorem info_str : (Tryd.prog.info? 9).map (fun i => (i.zero, i.size, i.bytes)) = some (some (.string ⟨#[]⟩), 1, 16) := by kernel_rfl
/-- the line number k with its end, as a text -/
def lnT (s : ByteArray) (k : Nat) : ByteArray := s.extract (lnX (bs s) k).1 ((lnX (bs s) k).2.1 + (lnX (bs s) k).2.2)

end Go.Proofs.YticonolnagcakaaDoor

namespace Go.Proofs.YticonolnagcakaaDoor
open Go.RowKit

/-- texts lie in a row -/
def StrAt (w : World) (g n : Nat) (f : Nat → ByteArray) : Prop := ∀ k, k < n → w.cell? ⟨g, k, none⟩ = some (.string (f k))
theorem StrAt.below {w w' : World} {g n : Nat} {f : Nat → ByteArray} (h : StrAt w g n f) (hb : Below w.heap.size w w') : StrAt w' g n f := fun k hk => cellKeep (h k hk) hb
/-- the row as a list of values -/
def strL (n : Nat) (f : Nat → ByteArray) : List Value := (List.range n).map fun k => Value.string (f k)
theorem strL_get (n : Nat) (f : Nat → ByteArray) (k : Nat) (hk : k < n) : (strL n f)[k]? = some (.string (f k)) := by
  unfold strL
  rw [List.getElem?_map, List.getElem?_range hk]
  rfl
theorem strL_len (n : Nat) (f : Nat → ByteArray) : (strL n f).length = n := by unfold strL; simp
theorem strL_one (n : Nat) (f : Nat → ByteArray) : ∀ u ∈ strL n f, u.oneCell' = true := by
  intro u hu
  unfold strL at hu
  obtain ⟨k, _, rfl⟩ := List.mem_map.1 hu
  rfl
theorem StrAt.src {w : World} {g n : Nat} {f : Nat → ByteArray} (h : StrAt w g n f) (m : Nat) (hm : m ≤ n) : ∀ i u, (strL m f)[i]? = some u → w.cell? ((⟨g, 0, none⟩ : Addr).add i) = some u := by
  intro i u hu
  have hi : i < m := by
    obtain ⟨h1, _⟩ := List.getElem?_eq_some_iff.1 hu
    rwa [strL_len] at h1
  rw [strL_get m f i hi] at hu
  cases hu
  rw [Addr.add_lit, Nat.zero_add]
  exact h i (by omega)
theorem StrAt.owned {w : World} {base : Nat} {e : TypeId} {g n cap : Nat} {f : Nat → ByteArray} (h : w.ownsRow base e 1 (.slice (some ⟨g, 0, none⟩) n cap) n (strL n f)) : StrAt w g n f := by
  intro k hk
  rw [h.cellAt k (by omega), strL_get n f k hk]

set_option maxHeartbeats 2000000 in
theorem eqtexts_any (g1 g2 c1 c2 n : Nat) (hn : n ≤ 140737488351232) (f : Nat → ByteArray) (w : World) (h1 : StrAt w g1 n f) (h2 : StrAt w g2 n f) :
    Calls Tryd.prog 14 #[.slice (some ⟨g1, 0, none⟩) n c1, .slice (some ⟨g2, 0, none⟩) n c2] w fun e w' => e = .returned (.bool true) ∧ Below w.heap.size w w' := by
  have H1 := Lib.hid h1
  have H2 := Lib.hid h2
  clear h1 h2
  have hnn : (((n : Nat) : Int) != (n : Int)) = false := by simp
  go_enter Tryd.func14, Tryd.ntmps14
  go_wp2_with fail
  go_loopw [5] (fun i wr => ∃ k : Nat, i = .int .i64 (k : Nat) ∧ k ≤ n ∧ Below w.heap.size w wr) (fun i _ => n - (intOf i).toNat)
  case atStart => exact ⟨0, rfl, Nat.zero_le _, Below.refl _ _⟩
  case round =>
    obtain ⟨k, rfl, hk, hb⟩ := hrel
    by_cases hlt : k < n
    · have hi : (k : Int) < (n : Int) := by omega
      have d1 := cellKeep (H1.out k hlt) hb
      have d2 := cellKeep (H2.out k hlt) hb
      have hbd := hb.drew
      obtain ⟨t, ht⟩ : ∃ t, f k = t := ⟨_, rfl⟩
      rw [ht] at d1 d2
      clear ht
      have hS : wr.cell? ⟨g1, k, none⟩ = some (.string t) ∧ wr.cell? ⟨g2, k, none⟩ = some (.string t) := ⟨d1, d2⟩
      go_wp2_with fail
      go_region_held_law (fun w' => w'.cell? ⟨g1, k, none⟩ = some (.string t) ∧ w'.cell? ⟨g2, k, none⟩ = some (.string t)) (first | (with_reducible assumption) | exact hS) (fail)
      go_wp2_with fail
      exact ⟨⟨k + 1, by go_num, hlt, hbd⟩, by simp [intOf]; omega⟩
    · obtain rfl : k = n := by omega
      have hi : decide (k < k) = false := decide_eq_false (by omega)
      go_wp2_with fail
      go_ret
      exact ⟨rfl, hb⟩
end Go.Proofs.YticonolnagcakaaDoor

namespace Go.Proofs.YticonolnagcakaaDoor
open Go.RowKit

/-- the mark -/
def tM (i k : Nat) : ByteArray := strOfNums [(i : Int) % 256, (k : Int) % 256, (k : Int) / 256 % 256]
theorem mark_conv (a b c : Int) (W : World) : (convert 79 9 (.slice (some ⟨W.heap.size, 0, none⟩) 3 3)).run Tryd.prog (W.alloc (.cells #[.int .u8 a, .int .u8 b, .int .u8 c] 5)) = .ok (.string (strOfNums [a, b, c])) (W.alloc (.cells #[.int .u8 a, .int .u8 b, .int .u8 c] 5)) := by
  refine run_convert_bytes_arg _ 79 5 Tryd.underlying79 Tryd.underlying5 W.heap.size 0 3 3 [a, b, c] rfl (fun i hi => ?_) 9 Tryd.underlying9
  have := cells_new W [.int .u8 a, .int .u8 b, .int .u8 c] 5 i (.int .u8 ([a, b, c].getD i 0)) (by
    match i, hi with
    | 0, _ => rfl
    | 1, _ => rfl
    | 2, _ => rfl)
  rwa [Addr.add_lit] at this
set_option maxHeartbeats 1000000 in
theorem mark_any (i k : Nat) (hk : k ≤ 140737488355328) (w : World) :
    Calls Tryd.prog 36 #[.int .i64 (i : Nat), .int .i64 (k : Nat)] w fun e w' => e = .returned (.string (tM i k)) ∧ Below w.heap.size w w' := by
  have hq : wrap64 ((k : Int) / 256) = (k : Int) / 256 := by unfold wrap64; omega
  have hcv := mark_conv ((i : Int) % 256) ((k : Int) % 256) ((k : Int) / 256 % 256) w
  go_enter Tryd.func36, Tryd.ntmps36
  go_wp2_with fail
  go_ret
  exact ⟨rfl, al (Below.refl _ _) _⟩
end Go.Proofs.YticonolnagcakaaDoor

namespace Go.Proofs.YticonolnagcakaaDoor
open Go.RowKit

def HRow (w : World) (base : Nat) (e : TypeId) (size : Nat) (v : Value) (n : Nat) (xs : List Value) : Prop :=
  xs.length = n * size ∧
  ((v = .slice none 0 0 ∧ n = 0) ∨
   ∃ g cap cur, v = .slice (some ⟨g, 0, none⟩) n cap ∧ base ≤ g ∧ w.heap[g]? = some (.cells cur e (0, 0)) ∧ n ≤ cap ∧ cap ≤ maxLen ∧ cap * size ≤ cur.size ∧ cur.toList.take (n * size) = xs)

section
variable {w : World} {base : Nat} {e : TypeId} {size : Nat} {v : Value} {n : Nat} {xs : List Value}
theorem HRow.of_own (h : w.ownsRow base e size v n xs) : HRow w base e size v n xs := by
  refine ⟨h.1, ?_⟩
  rcases h.2 with h2 | ⟨g, cap, cur, hv, hb, hg, h1, h2, h3, h4⟩
  · exact .inl h2
  · exact .inr ⟨g, cap, cur, hv, hb, hg, h1, h2, Nat.le_of_eq h3.symm, h4⟩
theorem HRow.clip {g cap : Nat} (h : w.ownsRow base e size (.slice (some ⟨g, 0, none⟩) n cap) n xs) : HRow w base e size (.slice (some ⟨g, 0, none⟩) n n) n xs := by
  refine ⟨h.1, ?_⟩
  rcases h.2 with ⟨h2, _⟩ | ⟨g', cap', cur, hv, hb, hg, h1, h2, h3, h4⟩
  · cases h2
  · injection hv with e1 _ e3
    injection e1 with e1
    injection e1 with e1
    subst e1 e3
    exact .inr ⟨g, n, cur, rfl, hb, hg, Nat.le_refl _, Nat.le_trans h1 h2, by rw [h3]; exact Nat.mul_le_mul_right _ h1, h4⟩
theorem HRow.lt (h : HRow w base e size v n xs) : ∀ k, v.ownBlock = some k → base ≤ k ∧ k < w.heap.size := by
  intro k hk
  rcases h.2 with ⟨rfl, _⟩ | ⟨g, cap, cur, rfl, hb, hg, _⟩
  · simp [Value.ownBlock] at hk
  · simp [Value.ownBlock] at hk
    subst hk
    exact ⟨hb, (Array.getElem?_eq_some_iff.1 hg).1⟩
theorem HRow.kept {w' : World} {row : Option Nat} (h : HRow w base e size v n xs) (hg : w.grownBy w' row) (hne : v.ownBlock = none ∨ v.ownBlock ≠ row) : HRow w' base e size v n xs := by
  refine ⟨h.1, ?_⟩
  rcases h.2 with hn | ⟨g, cap, cur, rfl, hb, hgg, rest⟩
  · exact .inl hn
  · refine .inr ⟨g, cap, cur, rfl, hb, ?_, rest⟩
    rw [hg.block g (Array.getElem?_eq_some_iff.1 hgg).1 (by simpa [Value.ownBlock] using hne)]
    exact hgg
theorem HRow.below {w' : World} (h : HRow w base e size v n xs) {B : Nat} (hb : Below B w w') (hB : w.heap.size ≤ B) : HRow w' base e size v n xs := by
  refine ⟨h.1, ?_⟩
  rcases h.2 with hn | ⟨g, cap, cur, rfl, hb', hgg, rest⟩
  · exact .inl hn
  · exact .inr ⟨g, cap, cur, rfl, hb', (hb.block g (by have := (Array.getElem?_eq_some_iff.1 hgg).1; omega)).trans hgg, rest⟩
theorem HRow.lower (h : HRow w base e size v n xs) {base' : Nat} (hB : base' ≤ base) : HRow w base' e size v n xs := by
  refine ⟨h.1, ?_⟩
  rcases h.2 with hn | ⟨g, cap, cur, rfl, hb', hgg, rest⟩
  · exact .inl hn
  · exact .inr ⟨g, cap, cur, rfl, Nat.le_trans hB hb', hgg, rest⟩
theorem HRow.form (h : HRow w base e size v n xs) : ∃ ao cap, v = .slice ao n cap := by
  rcases h.2 with ⟨rfl, rfl⟩ | ⟨g, cap, cur, rfl, _⟩
  · exact ⟨_, _, rfl⟩
  · exact ⟨_, _, rfl⟩
theorem HRow.form1 (h : HRow w base e size v n xs) (hn : 0 < n) : ∃ g cap, v = .slice (some ⟨g, 0, none⟩) n cap ∧ base ≤ g ∧ g < w.heap.size := by
  rcases h.2 with ⟨rfl, rfl⟩ | ⟨g, cap, cur, rfl, hb, hg, _⟩
  · omega
  · exact ⟨g, cap, rfl, hb, (Array.getElem?_eq_some_iff.1 hg).1⟩
/-- rows of blocks of two types lie apart -/
theorem HRow.apart {base' e' size' n' : Nat} {v' : Value} {xs' : List Value} (h : HRow w base e size v n xs) (h' : HRow w base' e' size' v' n' xs') (hne : e ≠ e') : ∀ g, v.ownBlock = some g → v'.ownBlock ≠ some g := by
  intro g hg hg'
  rcases h.2 with ⟨rfl, _⟩ | ⟨g1, cap, cur, rfl, _, hh, _⟩
  · simp [Value.ownBlock] at hg
  · rcases h'.2 with ⟨rfl, _⟩ | ⟨g2, cap', cur', rfl, _, hh', _⟩
    · simp [Value.ownBlock] at hg'
    · simp [Value.ownBlock] at hg hg'
      subst hg hg'
      rw [hh] at hh'
      injection hh' with e1
      injection e1 with _ e2
      exact hne e2
theorem HRow.cellAt {g cap : Nat} (h : HRow w base e size (.slice (some ⟨g, 0, none⟩) n cap) n xs) (j : Nat) (hj : j < n * size) : w.cell? ⟨g, j, none⟩ = xs[j]? := by
  rcases h.2 with ⟨h', _⟩ | ⟨g', cap', cur, h', hb, hg, hnc, hcm, hcs, htake⟩
  · simp at h'
  · simp only [Value.slice.injEq, Option.some.injEq, Addr.mk.injEq, and_true, true_and] at h'
    obtain ⟨rfl, rfl⟩ := h'
    rw [cell_of_row w g j cur e (0, 0) hg, ← htake, List.getElem?_take_of_lt hj, Array.getElem?_toList]
theorem HRow.frozenAt {g cap : Nat} (h : HRow w base e size (.slice (some ⟨g, 0, none⟩) n cap) n xs) (j : Nat) : w.frozen? ⟨g, j, none⟩ = false := by
  rcases h.2 with ⟨h', _⟩ | ⟨g', cap', cur, h', hb, hg, hnc, hcm, hcs, htake⟩
  · simp at h'
  · simp only [Value.slice.injEq, Option.some.injEq, Addr.mk.injEq, and_true, true_and] at h'
    obtain ⟨rfl, rfl⟩ := h'
    exact frozen_of_row w g j cur e hg
theorem HRow.stored {g cap : Nat} (h : HRow w base e size (.slice (some ⟨g, 0, none⟩) n cap) n xs) (j : Nat) (u : Value) :
    HRow (w.setCell ⟨g, j, none⟩ u) base e size (.slice (some ⟨g, 0, none⟩) n cap) n (xs.set j u) ∧ w.grownBy (w.setCell ⟨g, j, none⟩ u) (some g) := by
  rcases h.2 with ⟨h', _⟩ | ⟨g', cap', cur, h', hb, hg, hnc, hcm, hcs, htake⟩
  · simp at h'
  · simp only [Value.slice.injEq, Option.some.injEq, Addr.mk.injEq, and_true, true_and] at h'
    obtain ⟨rfl, rfl⟩ := h'
    refine ⟨⟨by simpa using h.1, .inr ⟨g, cap, cur.setIfInBounds j u, rfl, hb, heap_setCell_same w g j cur e u hg, hnc, hcm, by simpa using hcs, ?_⟩⟩,
      ⟨rfl, rfl, rfl, by simp, fun k _ hk => heap_setCell_other w ⟨g, j, none⟩ k u (fun e => hk (by simp [e]))⟩⟩
    rw [Array.toList_setIfInBounds, ← htake, List.take_set]
theorem HRow.cells (h : HRow w base e size v n xs) {g : Nat} (hg : v.ownBlock = some g) : ∀ j u, xs[j]? = some u → w.cell? ((⟨g, 0, none⟩ : Addr).add j) = some u := by
  intro j u hu
  obtain ⟨hj, _⟩ := List.getElem?_eq_some_iff.1 hu
  have hj' : j < n * size := by have := h.1; omega
  rcases h.2 with ⟨rfl, _⟩ | ⟨g', cap', cur, rfl, _⟩
  · simp [Value.ownBlock] at hg
  · have hg' : g' = g := by simpa [Value.ownBlock] using hg
    subst hg'
    rw [Addr.add_lit, Nat.zero_add, h.cellAt j hj', hu]
end

theorem run_append_held {P : Program} (w : World) (base : Nat) (t ty e : TypeId) (i : TypeInfo) (z : Value) (size bytes : Nat) (ht : P.underlying t = some (.slice e)) (hi : P.info? e = some i) (hz : i.zero = some z)
    (hsize : i.size = size) (hby : i.bytes = bytes) (hzs : z.cells.size = size)
    (v : Value) (n : Nat) (xs : List Value) (hown : HRow w base e size v n xs)
    (a : Addr) (m c : Nat) (news : List Value) (hl : news.length = m * size) (hnews : ∀ j u, news[j]? = some u → w.cell? (a.add j) = some u) (h1 : ∀ u ∈ news, u.oneCell' = true)
    (h63 : n + m ≤ maxLen) (hbytes : (n + m) * bytes ≤ 140737488355328) (hbase : base ≤ w.heap.size) (hm : 0 < m) :
    ∃ v' w', (Builtin.append_ #[t, t] ty #[v, .slice (some a) m c]).run P w = .ok v' w' ∧ HRow w' base e size v' (n + m) (xs ++ news) ∧ w.grownBy w' v.ownBlock ∧
      (v'.ownBlock = v.ownBlock ∨ (v'.ownBlock = some w.heap.size ∧ w.grownBy w' none)) := by
  subst hsize
  subst hby
  have hsmall : n + m ≤ 9223372036854775807 := by simp only [maxLen] at h63; omega
  have hlen : (xs ++ news).length = (n + m) * i.size := by rw [List.length_append, hown.1, hl, Nat.add_mul]
  have grown : ∀ (old : Nat), old < n + m → ∀ (row : Option Nat),
      HRow (w.drew.alloc (.cells (xs.toArray ++ news.toArray ++ Builtin.zeroCells z.cells (grownCap w (n + m) old e - (n + m))) e)) base e i.size
        (.slice (some ⟨w.heap.size, 0, none⟩) (n + m) (grownCap w (n + m) old e)) (n + m) (xs ++ news) ∧
      w.grownBy (w.drew.alloc (.cells (xs.toArray ++ news.toArray ++ Builtin.zeroCells z.cells (grownCap w (n + m) old e - (n + m))) e)) row := by
    intro old ho row
    have hge := grownCap_ge w (n + m) old e
    have hcm : grownCap w (n + m) old e ≤ maxLen := grownCap_le_maxLen w (n + m) old e h63
    refine ⟨⟨hlen, .inr ⟨w.heap.size, _, _, rfl, hbase, heap_alloc_new w.drew _, hge, hcm, ?_, ?_⟩⟩, ⟨rfl, rfl, rfl, by simp, fun k hk _ => Below.heap_alloc w.drew _ k hk⟩⟩
    · simp only [Array.size_append, List.size_toArray, size_zeroCells, hzs, hown.1, hl, ← Nat.add_mul]
      apply Nat.le_of_eq
      congr 1
      omega
    · simp only [Array.toList_append, List.append_assoc]
      rw [← List.append_assoc, ← hlen]
      exact List.take_left
  rcases hown.2 with ⟨rfl, rfl⟩ | ⟨g, cap, cur, rfl, hbg, hg, hnc, hcm, hcs, htake⟩
  · have hx : xs = [] := List.eq_nil_of_length_eq_zero (by simpa using hown.1)
    subst hx
    have hr := run_append_nil (P := P) w t ty e i z ht hi hz a m c news hl hnews (by omega) (by omega) (by have hb := hbytes; simp only [Nat.zero_add] at hb; omega)
    have hgr := fun row => grown 0 (by omega) row
    simp only [Nat.zero_add, List.nil_append, Array.empty_append] at hgr ⊢
    exact ⟨_, _, hr, (hgr none).1, (hgr _).2, .inr ⟨rfl, (hgr none).2⟩⟩
  · by_cases hroom : n + m ≤ cap
    · have hfit : n * i.size + news.length ≤ cur.size := by rw [hl, ← Nat.add_mul]; exact Nat.le_trans (Nat.mul_le_mul_right _ hroom) hcs
      have hr := run_append_room (P := P) w t ty e i ht hi g n cap cur hg a m c news hl hnews h1 hroom hfit
      refine ⟨_, _, hr, ⟨hlen, .inr ⟨g, cap, _, rfl, hbg, setRow_heap w g cur _ e _ hg, hroom, hcm, ?_, ?_⟩⟩, ⟨rfl, rfl, rfl, by simp, fun k _ hk => setRow_other w g k _ (fun e => hk (by simp [Value.ownBlock, e]))⟩, .inl rfl⟩
      · simp only [List.size_toArray, List.length_append, List.length_take, List.length_drop, Array.length_toList]
        omega
      · rw [htake, ← hlen]
        exact List.take_left
    · have holds : ∀ j u, xs[j]? = some u → w.cell? ((⟨g, 0, none⟩ : Addr).add j) = some u := hown.cells (g := g) rfl
      have hr := run_append_grow (P := P) w t ty e i z ht hi hz ⟨g, 0, none⟩ n cap xs hown.1 holds a m c news hl hnews (by omega) (by omega) (growslice_fits (by omega) hbytes)
      have hgr := fun row => grown cap (by omega) row
      exact ⟨_, _, hr, (hgr none).1, (hgr _).2, .inr ⟨rfl, (hgr none).2⟩⟩

/-- 'append(v, x...)' as one step of a walk. -/
theorem wpList_append_held {P : Program} {w : World} {ops : Array Oper} {rest : List Oper} {o : Oper} {a : Act} {Q : Exit → Act → World → Prop} (hgd : o.guard = none) (s x : Operand) (t : TypeId)
    (ho : o.op = .call { callee := .builtin .append, args := #[s, x], argTypes := #[t, t] })
    (base : Nat) (e : TypeId) (i : TypeInfo) (z : Value) (size bytes : Nat) (ht : P.underlying t = some (.slice e)) (hi : P.info? e = some i) (hz : i.zero = some z)
    (hsize : i.size = size) (hby : i.bytes = bytes) (hzs : z.cells.size = size)
    (v : Value) (n : Nat) (xs : List Value) (hs : a.eval s = v) (hown : HRow w base e size v n xs)
    (ad : Addr) (m c : Nat) (news : List Value) (hx : a.eval x = .slice (some ad) m c) (hl : news.length = m * size) (hnews : ∀ j u, news[j]? = some u → w.cell? (ad.add j) = some u) (h1 : ∀ u ∈ news, u.oneCell' = true)
    (h63 : n + m ≤ maxLen) (hbytes : (n + m) * bytes ≤ 140737488355328) (hbase : base ≤ w.heap.size) (hm : 0 < m)
    (h : ∀ v' w', HRow w' base e size v' (n + m) (xs ++ news) → w.grownBy w' v.ownBlock → (v'.ownBlock = v.ownBlock ∨ (v'.ownBlock = some w.heap.size ∧ w.grownBy w' none)) → wpList P ops Q rest (a.put o.dst v') w') : wpList P ops Q (o :: rest) a w := by
  refine wpList_plain hgd fun _ hK => ?_
  obtain ⟨v', w', hr, h2, h3, h4⟩ := run_append_held (P := P) w base t o.type e i z size bytes ht hi hz hsize hby hzs v n xs hown ad m c news hl hnews h1 h63 hbytes hbase hm
  unfold Oper.wp execOp
  simp only [ho, resolve, invoke, builtin, Sem.run_bind, Sem.run_pure, Result.andThen_ok, List.map_toArray, List.map_cons, List.map_nil, hs, hx, hr]
  exact hK _ _ (h v' w' h2 h3 h4)
end Go.Proofs.YticonolnagcakaaDoor

namespace Go.Proofs.YticonolnagcakaaDoor
open Go.RowKit

/-- a world behind another one, in which nothing that existed has turned -/
structure Later (w : World) where
  W : World
  hb : Below w.heap.size w W
instance (w : World) : Inhabited (Later w) := ⟨⟨w, Below.refl _ _⟩⟩
theorem wp_region_later {P : Program} {id : Nat} {Q : Exit → Act → World → Prop} {a : Act} {w : World} {l : List Oper} (hm : P.follows .mixedOrders = true) (hB : Region.lexB .any l.toArray = true)
    (h : wpQuiet P l.toArray (fun w' => ∃ p : Later w, w' = p.W) (fun a' => ∀ w', (∃ p : Later w, w' = p.W) → Q .normal a' w') l a) : (Code.region id l.toArray true).wp P Q a w :=
  wp_region_quiet (C := fun w' => ∃ p : Later w, w' = p.W) hm hB ⟨⟨w.drew, (Below.refl _ _).drew⟩, rfl⟩ (by simpa using h)
theorem Later.cell {w : World} {g i : Nat} {v : Value} (h : w.cell? ⟨g, i, none⟩ = some v) (p : Later w) : p.W.cell? ⟨g, i, none⟩ = some v := cellKeep h p.hb
theorem Calls.later_of {P : Program} {f : FuncId} {args : Array Value} {w : World} {p : Later w} {v : Value}
    (h : Calls P f args p.W fun e w' => e = .returned v ∧ Below p.W.heap.size p.W w') : Calls P f args p.W fun e w'' => e = .returned v ∧ ∃ q : Later w, w'' = q.W :=
  h.mono fun _ _ ⟨he, hb⟩ => ⟨he, ⟨_, nx p.hb hb⟩, rfl⟩

end Go.Proofs.YticonolnagcakaaDoor

namespace Go.Proofs.YticonolnagcakaaDoor
open Go.RowKit

/-- marks in a row -/
def mkL (i m : Nat) : List Value := (List.range m).map fun k => Value.string (tM i k)
theorem mkL_len (i m : Nat) : (mkL i m).length = m := by unfold mkL; simp
theorem mkL_succ (i m : Nat) : mkL i (m + 1) = mkL i m ++ [.string (tM i m)] := by unfold mkL; rw [List.range_succ, List.map_append]; rfl
theorem mkL_get (i m k : Nat) (h : k < m) : (mkL i m)[k]? = some (.string (tM i k)) := by
  unfold mkL
  rw [List.getElem?_map, List.getElem?_range h]
  rfl
/-- the first m marked -/
def mixM (i m : Nat) (xs : List Value) : List Value := mkL i m ++ xs.drop m
theorem mixM_zero (i : Nat) (xs : List Value) : mixM i 0 xs = xs := by simp [mixM, mkL]
theorem mixM_full (i n : Nat) (xs : List Value) (h : xs.length = n) : mixM i n xs = mkL i n := by
  unfold mixM
  rw [List.drop_of_length_le (by omega), List.append_nil]
theorem mixM_set (i k : Nat) (xs : List Value) (h : k < xs.length) : (mixM i k xs).set k (.string (tM i k)) = mixM i (k + 1) xs := by
  unfold mixM
  rw [List.set_append_right _ _ (by rw [mkL_len]; exact Nat.le_refl _), mkL_len, Nat.sub_self, List.drop_eq_getElem_cons h, List.set_cons_zero, mkL_succ, List.append_assoc]
  rfl
def upd {α : Type} (f : Nat → α) (i : Nat) (x : α) : Nat → α := fun j => if j = i then x else f j
theorem upd_same {α : Type} (f : Nat → α) (i : Nat) (x : α) : upd f i x i = x := if_pos rfl
theorem upd_other {α : Type} (f : Nat → α) (i j : Nat) (x : α) (h : j ≠ i) : upd f i x j = f j := if_neg h

/-- the lists' blocks lie apart -/
def ApartB (v : Nat → Value) : Prop := ∀ i j g, i ≠ j → i < 2 → j < 2 → (v i).ownBlock = some g → (v j).ownBlock ≠ some g

/-- the lists, marked up to m -/
structure Ma (B L n : Nat) (v : Nat → Value) (xs : Nat → List Value) (m : Nat → Nat) (W0 W : World) : Prop where
  row : ∀ j, j < 2 → HRow W B 9 1 (v j) n (mixM j (m j) (xs j))
  cel : ∀ j, j < 2 → W.cell? ⟨L, j, none⟩ = some (v j)
  bel : Below B W0 W
  siz : W0.heap.size ≤ W.heap.size

theorem Ma.below {B L n : Nat} {v : Nat → Value} {xs : Nat → List Value} {m : Nat → Nat} {W0 W W' : World} (h : Ma B L n v xs m W0 W) (hb : Below W.heap.size W W') (hB : B ≤ W.heap.size) : Ma B L n v xs m W0 W' :=
  ⟨fun j hj => (h.row j hj).below hb (Nat.le_refl _), fun j hj => cellKeep (h.cel j hj) hb, h.bel.trans (hb.mono hB), Nat.le_trans h.siz hb.size⟩

theorem Ma.step {B L n : Nat} {v : Nat → Value} {xs : Nat → List Value} {m : Nat → Nat} {W0 W : World} (h : Ma B L n v xs m W0 W) (hA : ApartB v) (hx : ∀ j, j < 2 → (xs j).length = n) (hL : ∀ j, j < 2 → (v j).ownBlock ≠ some L)
    {i k g c : Nat} (hi : i < 2) (hk : k < n) (hm : m i = k) (hv : v i = .slice (some ⟨g, 0, none⟩) n c) :
    Ma B L n v xs (upd m i (k + 1)) W0 (W.setCell ⟨g, k, none⟩ (.string (tM i k))) := by
  have hr := h.row i hi
  rw [hv] at hr
  obtain ⟨hr1, hr2⟩ := hr.stored k (.string (tM i k))
  have hgB : B ≤ g := (hr.lt g rfl).1
  refine ⟨fun j hj => ?_, fun j hj => ?_, h.bel.setCell (p := ⟨g, k, none⟩) hgB _, Nat.le_trans h.siz hr2.size⟩
  · by_cases e : j = i
    · subst e
      rw [upd_same, hv, ← mixM_set j k (xs j) (by rw [hx j hj]; exact hk), ← hm]
      rw [hm] at hr1 ⊢
      exact hr1
    · rw [upd_other _ _ _ _ e]
      refine (h.row j hj).kept hr2 ?_
      rcases hb : (v j).ownBlock with _ | q
      · exact .inl rfl
      · refine .inr fun e' => ?_
        have := hA i j g (fun e'' => e e''.symm) hi hj (by rw [hv]; rfl)
        rw [hb] at this
        exact this e'
  · refine hr2.cell (h.cel j hj) ?_
    intro e
    have := hL i hi
    rw [hv] at this
    exact this e.symm

/-- the lists p that grow out of v -/
structure Fp (B L n H : Nat) (v p : Nat → Value) (q : Nat → Nat) (W0 W : World) : Prop where
  P : ∀ j, j < 2 → HRow W B 9 1 (p j) (n + q j) (mkL j (n + q j))
  A : ∀ j, j < 2 → ∀ g, (v j).ownBlock = some g → ∀ k, k < n → W.cell? ⟨g, k, none⟩ = some (.string (tM j k))
  C : ∀ j, j < 2 → W.cell? ⟨L, j, none⟩ = some (v j)
  pin : ∀ j, j < 2 → (p j).ownBlock = (v j).ownBlock ∨ ∀ g, (p j).ownBlock = some g → H ≤ g
  pq : ApartB p
  siz : H ≤ W.heap.size
  bel : Below B W0 W

theorem Fp.below {B L n H : Nat} {v p : Nat → Value} {q : Nat → Nat} {W0 W W' : World} (h : Fp B L n H v p q W0 W) (hb : Below W.heap.size W W') (hB : B ≤ W.heap.size) : Fp B L n H v p q W0 W' :=
  ⟨fun j hj => (h.P j hj).below hb (Nat.le_refl _), fun j hj g hg k hk => cellKeep (h.A j hj g hg k hk) hb, fun j hj => cellKeep (h.C j hj) hb, h.pin, h.pq, Nat.le_trans h.siz hb.size, h.bel.trans (hb.mono hB)⟩

/-- something else grows, that is none of ours -/
theorem Fp.other {B L n H : Nat} {v p : Nat → Value} {q : Nat → Nat} {W0 W W' : World} {row : Option Nat} (h : Fp B L n H v p q W0 W) (hg : W.grownBy W' row) (hB : B ≤ W.heap.size) (hrow : ∀ g, row = some g → H ≤ g ∧ B ≤ g ∧ ∀ j, j < 2 → (p j).ownBlock ≠ some g)
    (hvH : ∀ j, j < 2 → ∀ g, (v j).ownBlock = some g → g < H) (hLH : L < H) : Fp B L n H v p q W0 W' := by
  refine ⟨fun j hj => (h.P j hj).kept hg ?_, fun j hj g hv k hk => hg.cell (h.A j hj g hv k hk) ?_, fun j hj => hg.cell (h.C j hj) ?_, h.pin, h.pq, Nat.le_trans h.siz hg.size, h.bel.grown hg hB (fun g e => (hrow g e).2.1)⟩
  · rcases hb : (p j).ownBlock with _ | g
    · exact .inl rfl
    · exact .inr fun e => (hrow g e.symm).2.2 j hj hb
  · intro e
    have := (hrow g e.symm).1
    have := hvH j hj g hv
    omega
  · intro e
    have := (hrow L e.symm).1
    omega

theorem Fp.step {B L n H : Nat} {v p : Nat → Value} {q : Nat → Nat} {W0 W W2 : World} {p' : Value} {i : Nat} (h : Fp B L n H v p q W0 W) (hi : i < 2) (hB : B ≤ W.heap.size)
    (hA : ApartB v) (hvH : ∀ j, j < 2 → ∀ g, (v j).ownBlock = some g → g < H) (hLH : L < H) (hL : ∀ j, j < 2 → (v j).ownBlock ≠ some L)
    (own2 : HRow W2 B 9 1 p' (n + q i + 1) (mkL i (n + q i) ++ [.string (tM i (n + q i))])) (hg : W.grownBy W2 (p i).ownBlock)
    (hw : p'.ownBlock = (p i).ownBlock ∨ (p'.ownBlock = some W.heap.size ∧ W.grownBy W2 none)) :
    Fp B L n H v (upd p i p') (upd q i (q i + 1)) W0 W2 := by
  have hsz := h.siz
  have hlt := (h.P i hi).lt
  have hother : ∀ j g, j < 2 → j ≠ i → (p j).ownBlock = some g → (p i).ownBlock ≠ some g := fun j g hj hne e => h.pq j i g hne hj hi e
  refine ⟨fun j hj => ?_, fun j hj g hv k hk => ?_, fun j hj => ?_, fun j hj => ?_, ?_, Nat.le_trans hsz hg.size, h.bel.grown hg hB (fun g e => (hlt g e).1)⟩
  · by_cases e : j = i
    · subst e
      rw [upd_same, upd_same, ← Nat.add_assoc, mkL_succ]
      exact own2
    · rw [upd_other _ _ _ _ e, upd_other _ _ _ _ e]
      refine (h.P j hj).kept hg ?_
      rcases hb : (p j).ownBlock with _ | g
      · exact .inl rfl
      · exact .inr fun e' => hother j g hj e hb e'.symm
  · by_cases hp : (p i).ownBlock = some g
    · -- the block of a list of ours: it is the very one
      have hji : j = i := by
        rcases h.pin i hi with hs | hs
        · by_cases e : j = i
          · exact e
          · exact absurd (hs ▸ hp) (hA j i g e hj hi hv)
        · have := hs g hp
          have := hvH j hj g hv
          omega
      subst hji
      rcases hw with hs | ⟨_, hg0⟩
      · have hp' : p'.ownBlock = some g := hs.trans hp
        obtain ⟨g2, c2, e2, _, _⟩ := own2.form1 (by omega)
        subst e2
        obtain rfl : g2 = g := by simpa [Value.ownBlock] using hp'
        rw [own2.cellAt k (by omega), List.getElem?_append_left (by rw [mkL_len]; omega), mkL_get _ _ _ (by omega)]
      · exact hg0.cell (h.A j hj g hv k hk) (by simp)
    · exact hg.cell (h.A j hj g hv k hk) (fun e => hp e.symm)
  · refine hg.cell (h.C j hj) ?_
    intro e
    rcases h.pin i hi with hs | hs
    · exact hL i hi (hs ▸ e.symm)
    · have := hs L e.symm
      omega
  · by_cases e : j = i
    · subst e
      rw [upd_same]
      rcases hw with hs | ⟨hs, _⟩
      · rw [hs]; exact h.pin j hj
      · exact .inr fun g e => by rw [hs] at e; have := Option.some.inj e; omega
    · rw [upd_other _ _ _ _ e]; exact h.pin j hj
  · intro a b g hab ha hb hpa
    by_cases e1 : a = i
    · subst e1
      rw [upd_same] at hpa
      rw [upd_other _ _ _ _ (fun e => hab e.symm)]
      rcases hw with hs | ⟨hs, _⟩
      · rw [hs] at hpa
        exact h.pq a b g hab ha hb hpa
      · intro hq
        have := ((h.P b hb).lt g hq).2
        rw [hs] at hpa
        have := Option.some.inj hpa
        omega
    · rw [upd_other _ _ _ _ e1] at hpa
      by_cases e2 : b = i
      · subst e2
        rw [upd_same]
        rcases hw with hs | ⟨hs, _⟩
        · rw [hs]
          exact h.pq a b g hab ha hb hpa
        · intro hq
          have := ((h.P a ha).lt g hpa).2
          rw [hs] at hq
          have := Option.some.inj hq
          omega
      · rw [upd_other _ _ _ _ e2]
        exact h.pq a b g hab ha hb hpa

theorem upd_upd {α : Type} (f : Nat → α) (i : Nat) (x y : α) : upd (upd f i x) i y = upd f i y := by
  funext j
  by_cases h : j = i
  · subst h; rw [upd_same, upd_same]
  · rw [upd_other _ _ _ _ h, upd_other _ _ _ _ h, upd_other _ _ _ _ h]
/-- x ahead of i, 0 from there on -/
def uptoI (x i : Nat) : Nat → Nat := fun j => if j < i then x else 0
theorem uptoI_start (x i : Nat) : upd (uptoI x i) i 0 = uptoI x i := by
  funext j
  by_cases h : j = i
  · subst h; rw [upd_same]; simp [uptoI]
  · rw [upd_other _ _ _ _ h]
theorem uptoI_next (x i : Nat) : upd (uptoI x i) i x = uptoI x (i + 1) := by
  funext j
  by_cases h : j = i
  · subst h; rw [upd_same]; simp [uptoI]
  · rw [upd_other _ _ _ _ h]
    unfold uptoI
    by_cases h2 : j < i
    · rw [if_pos h2, if_pos (by omega)]
    · rw [if_neg h2, if_neg (by omega)]
theorem uptoI_lt (x i j : Nat) (h : j < i) : uptoI x i j = x := if_pos h
theorem set_other {W : World} {g k L i : Nat} {x y : Value} (hne : g ≠ L) (h : W.cell? ⟨L, i, none⟩ = some y) : (W.setCell ⟨g, k, none⟩ x).cell? ⟨L, i, none⟩ = some y :=
  (grownBy_set W g k x).cell h (fun e => hne (by cases e; rfl))
theorem none_or {x y : Option Nat} (h : ∀ g, x = some g → y ≠ some g) : x = none ∨ x ≠ y := by
  rcases hx : x with _ | g
  · exact .inl rfl
  · exact .inr fun e => h g hx e.symm
theorem info_texts : (Tryd.prog.info? 33).map (fun i => (i.zero, i.size, i.bytes)) = some (some (.slice none 0 0), 1, 24) := by kernel_rfl

set_option maxRecDepth 100000 in
set_option maxHeartbeats 8000000 in
theorem apart_any (n : Nat) (hn : n ≤ 4194304) (v : Nat → Value) (xs : Nat → List Value) (L B : Nat) (w : World) (hB : B ≤ w.heap.size) (hLs : L < w.heap.size)
    (hrow : ∀ j, j < 2 → HRow w B 9 1 (v j) n (xs j)) (hcel : ∀ j, j < 2 → w.cell? ⟨L, j, none⟩ = some (v j)) (hA : ApartB v) (hL : ∀ j, j < 2 → (v j).ownBlock ≠ some L) :
    Calls Tryd.prog 15 #[.slice (some ⟨L, 0, none⟩) 2 2] w fun e w' => e = .returned (.bool true) ∧ Below B w w' := by
  obtain ⟨i0, hi, hz0, hz1, hz2⟩ := info_parts info_str
  obtain ⟨i1, hj, hw0, hw1, hw2⟩ := info_parts info_texts
  have HX : Hid (∀ j, j < 2 → (xs j).length = n) := Lib.hid fun j hj => by have := (hrow j hj).1; omega
  have M0 : Hid (Ma B L n v xs (fun _ => 0) w w) := Lib.hid ⟨fun j hj => by rw [mixM_zero]; exact hrow j hj, hcel, Below.refl _ _, Nat.le_refl _⟩
  have HVF : Hid (∀ j, j < 2 → ∃ ao c, v j = .slice ao n c) := Lib.hid fun j hj => (hrow j hj).form
  have HVG : Hid (0 < n → ∀ j, j < 2 → ∃ g c, v j = .slice (some ⟨g, 0, none⟩) n c) := Lib.hid fun hn j hj => by obtain ⟨g, c, e, _⟩ := (hrow j hj).form1 hn; exact ⟨g, c, e⟩
  have HA := Lib.hid hA
  have HL := Lib.hid hL
  have HB := Lib.hid hB
  have HLs := Lib.hid hLs
  clear hrow hcel hA hL hLs hB
  go_enter Tryd.func15, Tryd.ntmps15
  go_wp2_with fail
  go_loopw [3] (fun i wr => ∃ i' : Nat, i = .int .i64 (i' : Nat) ∧ i' ≤ 2 ∧ Hid (Ma B L n v xs (uptoI n i') w wr)) (fun i _ => 2 - (intOf i).toNat)
  case atStart => exact ⟨0, rfl, by omega, Lib.hid (by rw [show uptoI n 0 = fun _ => 0 from rfl]; exact M0.out)⟩
  case round =>
    obtain ⟨i, rfl, hi2, hM⟩ := hrel
    by_cases h2 : i < 2
    · have h2i : (i : Int) < 2 := by omega
      have h2z : (0 : Int) ≤ (i : Int) := by omega
      have hMo := hM.out
      rw [← uptoI_start] at hMo
      have hM := Lib.hid hMo
      clear hMo
      obtain ⟨wo, rfl⟩ : ∃ wo : World, wo = wr := ⟨_, rfl⟩
      go_wp2_with fail
      go_loopw [4] (fun k wr => ∃ k' : Nat, k = .int .i64 (k' : Nat) ∧ k' ≤ n ∧ Hid (Ma B L n v xs (upd (uptoI n i) i k') w wr)) (fun k _ => n - (intOf k).toNat)
      case atStart => exact ⟨0, rfl, Nat.zero_le _, hM⟩
      case round =>
        clear hM
        obtain ⟨k, rfl, hk, hM⟩ := hrel
        have d0 := hM.out.cel i h2
        obtain ⟨ao, c, hv⟩ := (hM.out.row i h2).form
        rw [hv] at d0
        by_cases hkn : k < n
        · have hki : (k : Int) < (n : Int) := by omega
          have hkz : (0 : Int) ≤ (k : Int) := by omega
          obtain ⟨g, c', hv', hBg, hgW⟩ := (hM.out.row i h2).form1 (by omega)
          obtain ⟨rfl, rfl⟩ : ao = some ⟨g, 0, none⟩ ∧ c = c' := by rw [hv] at hv'; injection hv' with e1 e2 e3; exact ⟨e1, e3⟩
          have hr := hM.out.row i h2
          rw [hv] at hr
          have f0 := hr.frozenAt k
          obtain ⟨u0, e0⟩ : ∃ u, wr.cell? ⟨g, k, none⟩ = some u := ⟨_, (hr.cellAt k (by omega)).trans (List.getElem?_eq_getElem (by have := hr.1; omega))⟩
          have HV := Lib.hid hv
          have HMK := Lib.hid (fun w => mark_any i k (by omega) w)
          have hS : wr.drew.cell? ⟨L, i, none⟩ = some (.slice (some ⟨g, 0, none⟩) n c) := d0
          have hgL : g ≠ L := fun e => HL.out i h2 (by rw [hv, e]; rfl)
          obtain ⟨T, hT⟩ : ∃ T, tM i k = T := ⟨_, rfl⟩
          rw [hT] at HMK
          have HT := Lib.hid hT
          clear hv hv' hr hT
          go_wp2_with fail
          go_region_held_law (fun w' => w'.cell? ⟨L, i, none⟩ = some (.slice (some ⟨g, 0, none⟩) n c)) (first | (with_reducible assumption) | (with_reducible exact set_other hgL hSb))
            (first | (go_at_call 36; (with_reducible refine (HMK.out _).mono ?_); rintro e wb ⟨rfl, hbb⟩; have hYb := nx (Below.refl wr.heap.size wr).drew hbb; have hSb := cellKeep d0 hYb; have eb := cellKeep e0 hYb; have fb := (hYb.frozen (p := ⟨g, k, none⟩) hgW).trans f0))
          go_wp2_with fail
          refine ⟨⟨k + 1, by go_num, by omega, Lib.hid ?_⟩, by simp [intOf]; omega⟩
          have hsz := hM.out.siz
          have hBB := HB.out
          have := (hM.out.below hYb (by omega)).step HA.out HX.out HL.out h2 hkn (upd_same _ _ _) HV.out
          rw [upd_upd, HT.out] at this
          exact this
        · obtain rfl : k = n := by omega
          have hkd : decide (k < k) = false := decide_eq_false (by omega)
          have hMo := hM.out
          rw [uptoI_next] at hMo
          have hM := Lib.hid hMo
          clear hMo
          go_wp2_with fail
          exact ⟨⟨i + 1, by go_num, by omega, hM⟩, by simp [intOf]; omega⟩
    · obtain rfl : i = 2 := by omega
      rw [show ((2 : Nat) : Int) = 2 from rfl]
      have hsz := hM.out.siz
      have hLH : L < wr.heap.size := Nat.lt_of_lt_of_le HLs.out hsz
      have hBH : B ≤ wr.heap.size := Nat.le_trans HB.out hsz
      have hvH : Hid (∀ j, j < 2 → ∀ g, (v j).ownBlock = some g → g < wr.heap.size) := Lib.hid fun j hj g hg => ((hM.out.row j hj).lt g hg).2
      have F0 : Hid (Fp B L n wr.heap.size v v (uptoI 70 0) w wr) := by
        have hr : ∀ j, j < 2 → HRow wr B 9 1 (v j) n (mkL j n) := fun j hj => by
          have := hM.out.row j hj
          rw [uptoI_lt _ _ _ hj, mixM_full _ _ _ (HX.out j hj)] at this
          exact this
        refine Lib.hid ⟨hr, fun j hj g hg k hk => ?_, hM.out.cel, fun j hj => .inl rfl, HA.out, Nat.le_refl _, hM.out.bel⟩
        obtain ⟨g', c', e', _, _⟩ := (hr j hj).form1 (by omega)
        have h := hr j hj
        rw [e'] at h hg
        obtain rfl : g' = g := by simpa [Value.ownBlock] using hg
        rw [h.cellAt k (by omega), mkL_get _ _ _ hk]
      obtain ⟨H, hH⟩ : ∃ H, wr.heap.size = H := ⟨_, rfl⟩
      rw [hH] at hLH hBH hvH F0
      have HLH := Lib.hid hLH
      have HBH := Lib.hid hBH
      clear M0 hM hH hsz hLH hBH hi2
      go_wp2_with fail
      go_loopw [5, 6] (fun gr i W => ∃ (i' : Nat) (p : Nat → Value), i = .int .i64 (i' : Nat) ∧ i' ≤ 2 ∧ Hid (Fp B L n H v p (uptoI 70 i') w W) ∧ Hid (∀ j, i' ≤ j → p j = v j) ∧ Hid (W.ownsRow H 33 1 gr i' ((List.range i').map p))) (fun _ i _ => 2 - (intOf i).toNat)
      case atStart => exact ⟨0, v, rfl, by omega, F0, Lib.hid fun _ _ => rfl, Lib.hid (World.ownsRow_nil _ _ _ _)⟩
      case round =>
        clear F0
        obtain ⟨i, p0, rfl, hi2, hF, hpv, hG⟩ := hrel
        by_cases h2 : i < 2
        · have h2i : (i : Int) < 2 := by omega
          have h2z : (0 : Int) ≤ (i : Int) := by omega
          have d0 := hF.out.C i h2
          have hP := hF.out.P i h2
          rw [hpv.out i (Nat.le_refl _), show uptoI 70 i i = 0 from if_neg (Nat.lt_irrefl _), Nat.add_zero] at hP
          obtain ⟨ao, c, hv⟩ := hP.form
          rw [hv] at d0
          have HV := Lib.hid (hv.symm.trans (hpv.out i (Nat.le_refl _)).symm)
          have hFo := hF.out
          rw [← uptoI_start] at hFo
          have hF := Lib.hid hFo
          clear hFo hP hv
          obtain ⟨wo, rfl⟩ : ∃ wo : World, wo = wr := ⟨_, rfl⟩
          go_wp2_with fail
          go_loopw [7, 8] (fun g k W => ∃ (k' : Nat) (p : Nat → Value), k = .int .i64 (k' : Nat) ∧ k' ≤ 70 ∧ Hid (g = p i) ∧ Hid (Fp B L n H v p (upd (uptoI 70 i) i k') w W) ∧ Hid (∀ j, j ≠ i → p j = p0 j) ∧ Hid (W.ownsRow H 33 1 u5 i ((List.range i).map p0))) (fun _ k _ => 70 - (intOf k).toNat)
          case atStart => exact ⟨0, p0, rfl, by omega, HV, hF, Lib.hid fun _ _ => rfl, hG⟩
          case round =>
            clear hF hG HV d0
            obtain ⟨k, p, rfl, hk, hgp, hF, hpp, hG⟩ := hrel
            have hP := hF.out.P i h2
            rw [← hgp.out, upd_same] at hP
            obtain ⟨a7, c7, rfl⟩ := hP.form
            have hHs := hF.out.siz
            have hBs : B ≤ wr.heap.size := Nat.le_trans HBH.out hHs
            by_cases hk7 : k < 70
            · have hki : (k : Int) < 70 := by omega
              have d0 := hF.out.C i h2
              obtain ⟨ao', c', hv⟩ := HVF.out i h2
              rw [hv] at d0
              have HMK := Lib.hid (fun w => mark_any i (n + k) (by omega) w)
              rw [Int.natCast_add] at HMK
              obtain ⟨T, hT⟩ : ∃ T, tM i (n + k) = T := ⟨_, rfl⟩
              rw [hT] at HMK
              have HT := Lib.hid hT
              have hPH := Lib.hid hP
              clear hP hT hv
              go_wp2_with (first
                | (go_at_call 36; (with_reducible refine (HMK.out _).mono ?_); rintro e wb ⟨rfl, hbb⟩; have hszb := hbb.size; have hrowb := Lib.hid ((hPH.out.below hbb (Nat.le_refl _)).below ((Below.refl _ _).alloc (Nat.le_refl _) (.cells #[.string T] 9)) (Nat.le_refl _)))
                | (at_builtin; refine wpList_append_held rfl _ _ 33 rfl B 9 i0 (.string ⟨#[]⟩) 1 16 Tryd.underlying33 hi hz0 hz1 hz2 rfl _ _ _ rfl hrowb.out ⟨wb.heap.size, 0, none⟩ 1 1 [.string T] rfl (by simp) (cells_new _ _ _) (by simp [Value.oneCell']) (by unfold maxLen; omega) (by omega) (by rw [World.size_alloc]; omega) (by omega) ?_; intro v4 w4 hown4 hgrow4 hwh4))
              refine ⟨⟨k + 1, upd p i v4, by go_num, by omega, Lib.hid (upd_same _ _ _).symm, Lib.hid ?_, Lib.hid fun j hj => by rw [upd_other _ _ _ _ hj]; exact hpp.out j hj, Lib.hid ?_⟩, by simp [intOf]; omega⟩
              · have hFb := (hF.out.below hbb hBs).below ((Below.refl _ _).alloc (Nat.le_refl _) (.cells #[.string T] 9)) (by omega)
                have hq : upd (uptoI 70 i) i k i = k := upd_same _ _ _
                have := hFb.step h2 (by rw [World.size_alloc]; omega) HA.out hvH.out HLH.out HL.out (p' := v4) (by rw [hq, HT.out]; exact hown4) (by rw [← hgp.out]; exact hgrow4) (by rw [← hgp.out]; exact hwh4)
                rw [upd_upd, hq] at this
                exact this
              · have hGb := (owns_below hG.out hbb (Nat.le_refl _)).alloc (.cells #[.string T] 9)
                exact hGb.kept hgrow4 (none_or ((HRow.of_own hGb).apart hrowb.out (by decide)))
            · obtain rfl : k = 70 := by omega
              have hFo := hF.out
              rw [uptoI_next] at hFo
              have hF := Lib.hid hFo
              have hPH := Lib.hid hP
              clear hFo hP
              go_wp2_with (at_builtin; refine wpList_append_own _ rfl _ _ 38 rfl H 33 i1 (.slice none 0 0) 1 24 Tryd.underlying38 hj hw0 hw1 hw2 rfl (by decide) u5 i _ rfl (hG.out.alloc _) ⟨wr.heap.size, 0, none⟩ 1 1 [.slice a7 (n + 70) c7] rfl (by simp) (cells_new _ _ _) (by simp [Value.oneCell']) (by unfold maxLen; omega) (by omega) (by rw [World.size_alloc]; omega) ?_; intro v4 w4 hown4 hgrow4 _)
              refine ⟨⟨i + 1, p, by go_num, by omega, Lib.hid ?_, Lib.hid fun j hj => (hpp.out j (by omega)).trans (hpv.out j (by omega)), Lib.hid ?_⟩, by simp [intOf]; omega⟩
              · refine (hF.out.below ((Below.refl _ _).alloc (Nat.le_refl _) (.cells #[.slice a7 (n + 70) c7] 33)) hBs).other hgrow4 (by rw [World.size_alloc]; omega) (fun g e => ⟨(hG.out.lt g e).1, Nat.le_trans HBH.out (hG.out.lt g e).1, fun j hj => ?_⟩) hvH.out HLH.out
                exact (HRow.of_own hG.out).apart (hF.out.P j hj) (by decide) g e
              · rw [List.range_succ, List.map_append, List.map_singleton, ← hgp.out]
                rw [show List.map p (List.range i) = List.map p0 (List.range i) from List.map_congr_left fun j hj => hpp.out j (by have := List.mem_range.1 hj; omega)]
                exact hown4
        · obtain rfl : i = 2 := by omega
          rw [show ((2 : Nat) : Int) = 2 from rfl]
          have HGC : Hid (∀ j, j < 2 → ∃ gp cp, wr.cell? ⟨(u5.ownBlock).getD 0, j, none⟩ = some (.slice (some ⟨gp, 0, none⟩) (n + 70) cp) ∧ ∀ k, k < n + 70 → wr.cell? ⟨gp, k, none⟩ = some (.string (tM j k))) := Lib.hid fun j hj => by
            obtain ⟨gG, cG, e5⟩ := ownsRow_succ hG.out
            have hc := hG.out
            rw [e5] at hc
            have h1 := hc.cellAt j (by omega)
            rw [List.getElem?_map, List.getElem?_range hj] at h1
            have hp := hF.out.P j hj
            rw [uptoI_lt _ _ _ hj] at hp
            obtain ⟨gp, cp, ep, _, _⟩ := hp.form1 (by omega)
            rw [e5]
            refine ⟨gp, cp, h1.trans (by rw [← ep]; rfl), fun k hk => ?_⟩
            rw [ep] at hp
            rw [hp.cellAt k (by omega), mkL_get _ _ _ hk]
          obtain ⟨gG, cG, e5⟩ : ∃ g cap, u5 = .slice (some ⟨g, 0, none⟩) 2 cap := ownsRow_succ hG.out
          subst e5
          have hBs : B ≤ wr.heap.size := Nat.le_trans HBH.out hF.out.siz
          obtain ⟨N, hN⟩ : ∃ N, n + 70 = N := ⟨_, rfl⟩
          rw [hN] at HGC
          have hN1 : N ≤ 4194374 := by omega
          have HN := Lib.hid hN
          clear hN hG hi2 h2
          obtain ⟨W9, hW9⟩ : ∃ W9, wr = W9 := ⟨_, rfl⟩
          rw [hW9] at hF HGC hBs ⊢
          clear hW9
          go_wp2_with fail
          go_loopw [9] (fun i W => ∃ (i' : Nat), i = .int .i64 (i' : Nat) ∧ i' ≤ 2 ∧ Below W9.heap.size W9 W) (fun i _ => 2 - (intOf i).toNat)
          case atStart => exact ⟨0, rfl, by omega, Below.refl _ _⟩
          case round =>
            obtain ⟨i, rfl, hi2, hb⟩ := hrel
            by_cases h2 : i < 2
            · have h2i : (i : Int) < 2 := by omega
              have h2z : (0 : Int) ≤ (i : Int) := by omega
              obtain ⟨gp, cp, hc, hcs⟩ := HGC.out i h2
              have hc : W9.cell? ⟨gG, i, none⟩ = some (.slice (some ⟨gp, 0, none⟩) N cp) := hc
              have HCS := Lib.hid hcs
              have hl := hF.out.C i h2
              obtain ⟨ao, c, hv⟩ := HVF.out i h2
              rw [hv] at hl
              have d0 := cellKeep hc hb
              have HV := Lib.hid hv
              clear hcs hv
              obtain ⟨wo, rfl⟩ : ∃ wo : World, wo = wr := ⟨_, rfl⟩
              go_wp2_with fail
              go_loopw [10] (fun k W => ∃ (k' : Nat), k = .int .i64 (k' : Nat) ∧ k' ≤ N ∧ Below W9.heap.size W9 W) (fun k _ => N - (intOf k).toNat)
              case atStart => exact ⟨0, rfl, Nat.zero_le _, hb⟩
              case round =>
                clear d0 hb
                obtain ⟨k, rfl, hk, hb⟩ := hrel
                have d0 := cellKeep hc hb
                by_cases hkN : k < N
                · have hki : (k : Int) < (N : Int) := by omega
                  have hkz : (0 : Int) ≤ (k : Int) := by omega
                  have d1 := cellKeep (HCS.out k hkN) hb
                  have d2 := cellKeep hl hb
                  have HMK := Lib.hid (fun w => mark_any i k (by omega) w)
                  have HA0 := Lib.hid (hF.out.A i h2)
                  obtain ⟨T, hT⟩ : ∃ T, tM i k = T := ⟨_, rfl⟩
                  rw [hT] at d1 HMK
                  have k0 := Later.cell d0
                  have k1 := Later.cell d1
                  have k2 := Later.cell d2
                  have cM : ∀ p' : Later wr, Calls Tryd.prog 36 #[.int .i64 (i : Nat), .int .i64 (k : Nat)] p'.W fun e w'' => e = .returned (.string T) ∧ ∃ q : Later wr, w'' = q.W := fun p' => Calls.later_of (HMK.out _)
                  by_cases hkn : k < n
                  · have hkj : (k : Int) < (n : Int) := by omega
                    obtain ⟨g, hg⟩ : ∃ g, ao = some ⟨g, 0, none⟩ := by
                      obtain ⟨g, c', e⟩ := HVG.out (by omega) i h2
                      rw [HV.out] at e
                      injection e with e1
                      exact ⟨g, e1⟩
                    subst hg
                    have d3 := cellKeep (HA0.out g (by rw [HV.out]; rfl) k hkn) hb
                    rw [hT] at d3
                    have k3 := Later.cell d3
                    go_wp2_with fail
                    clear hT d0 d1 d2 d3
                    refine wp_region_later (by kernel_rfl) (by kernel_rfl) ?_
                    repeat (go_big_quiet_step (with_reducible exact cM _))
                    refine wpQuiet_nil ?_
                    intro _ hw'
                    obtain ⟨pq, hw''⟩ := hw'
                    subst hw''
                    go_wp2_with fail
                    exact ⟨⟨k + 1, by go_num, by omega, nx hb pq.hb⟩, by simp [intOf]; omega⟩
                  · have hkd : decide (k < n) = false := decide_eq_false hkn
                    have hkd2 : decide ((k : Int) < (n : Int)) = false := decide_eq_false (by omega)
                    go_wp2_with fail
                    clear hT d0 d1 d2
                    refine wp_region_later (by kernel_rfl) (by kernel_rfl) ?_
                    repeat (go_big_quiet_step (with_reducible exact cM _))
                    refine wpQuiet_nil ?_
                    intro _ hw'
                    obtain ⟨pq, hw''⟩ := hw'
                    subst hw''
                    go_wp2_with fail
                    exact ⟨⟨k + 1, by go_num, by omega, nx hb pq.hb⟩, by simp [intOf]; omega⟩
                · obtain rfl : k = N := by omega
                  have hkd : decide (k < k) = false := decide_eq_false (by omega)
                  go_wp2_with fail
                  exact ⟨⟨i + 1, by go_num, by omega, hb⟩, by simp [intOf]; omega⟩
            · obtain rfl : i = 2 := by omega
              rw [show ((2 : Nat) : Int) = 2 from rfl]
              go_wp2_with fail
              go_ret
              exact ⟨rfl, hF.out.bel.trans (hb.mono hBs)⟩

/-- two lists, laid in a list of lists -/
theorem apart_two (n : Nat) (hn : n ≤ 4194304) (v1 v2 : Value) (xs1 xs2 : List Value) (B : Nat) (w : World) (hB : B ≤ w.heap.size)
    (h1 : HRow w B 9 1 v1 n xs1) (h2 : HRow w B 9 1 v2 n xs2) (hne : ∀ g, v1.ownBlock = some g → v2.ownBlock ≠ some g) :
    Calls Tryd.prog 15 #[.slice (some ⟨w.heap.size, 0, none⟩) 2 2] (w.alloc (.cells #[v1, v2] 33)) fun e w' => e = .returned (.bool true) ∧ Below B w w' := by
  have hal : Below w.heap.size w (w.alloc (.cells #[v1, v2] 33)) := (Below.refl _ _).alloc (Nat.le_refl _) _
  have two : ∀ j, j < 2 → j = 0 ∨ j = 1 := fun j hj => by omega
  refine (apart_any n hn (fun j => if j = 0 then v1 else v2) (fun j => if j = 0 then xs1 else xs2) w.heap.size B _ (Nat.le_trans hB hal.size) (by rw [World.size_alloc]; omega) ?_ ?_ ?_ ?_).mono ?_
  · intro j hj
    rcases two j hj with rfl | rfl
    · exact h1.below hal (Nat.le_refl _)
    · exact h2.below hal (Nat.le_refl _)
  · intro j hj
    have := cells_new w [v1, v2] 33 j
    rw [Addr.add_lit, Nat.zero_add] at this
    rcases two j hj with rfl | rfl
    · exact this _ rfl
    · exact this _ rfl
  · intro i j g hij hi hj hg
    rcases two i hi with rfl | rfl <;> rcases two j hj with rfl | rfl
    · exact absurd rfl hij
    · exact hne g hg
    · exact fun e => hne g e hg
    · exact absurd rfl hij
  · intro j hj e
    rcases two j hj with rfl | rfl
    · exact absurd (h1.lt _ e).2 (Nat.lt_irrefl _)
    · exact absurd (h2.lt _ e).2 (Nat.lt_irrefl _)
  · rintro e w' ⟨rfl, hb⟩
    exact ⟨rfl, (hal.mono hB).trans hb⟩
end Go.Proofs.YticonolnagcakaaDoor
