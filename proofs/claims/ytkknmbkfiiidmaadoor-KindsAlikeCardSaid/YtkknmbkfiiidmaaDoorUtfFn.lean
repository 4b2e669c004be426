/-
  Plain functions on a text's characters: the place of a character, the character of a place, borders; and what they are of cuts. No program stands here.
-/
import Derived.Test.YtkknmbkfiiidmaaDoorUtf
namespace Go.Proofs.YtkknmbkfiiidmaaDoor
open Go.Lib

def countN (l : Bs) : Nat := (tk l).length
theorem countN_le (l : Bs) : countN l ≤ l.length := (Cut.full l).len_le

/-- the character that has a place; at the end how many there are -/
def ofT : List (Nat × Nat) → Nat → Nat
  | [], _ => 0
  | c :: t, p => if p < c.2 then 0 else 1 + ofT t (p - c.2)
/-- is a place a border? -/
def bordT : List (Nat × Nat) → Nat → Bool
  | _, 0 => true
  | [], _ + 1 => false
  | c :: t, p + 1 => if p + 1 < c.2 then false else bordT t (p + 1 - c.2)

theorem ofT_append (a t : List (Nat × Nat)) (p : Nat) (h : wsum a ≤ p) : ofT (a ++ t) p = a.length + ofT t (p - wsum a) := by
  induction a generalizing p with
  | nil => simp [wsum]
  | cons c a ih =>
    rw [wsum_cons] at h
    rw [List.cons_append, ofT, if_neg (by omega), ih _ (by omega), wsum_cons]
    simp only [List.length_cons]
    rw [show p - c.2 - wsum a = p - (c.2 + wsum a) from by omega]
    omega

theorem bordT_append (a t : List (Nat × Nat)) (p : Nat) (h : wsum a ≤ p) (hpos : ∀ c ∈ a, 1 ≤ c.2) : bordT (a ++ t) p = bordT t (p - wsum a) := by
  induction a generalizing p with
  | nil => simp [wsum]
  | cons c a ih =>
    have hc := hpos c (by simp)
    rw [wsum_cons] at h
    obtain ⟨q, rfl⟩ : ∃ q, p = q + 1 := ⟨p - 1, by omega⟩
    rw [List.cons_append, bordT, if_neg (by omega), ih _ (by omega) (fun d hd => hpos d (by simp [hd])), wsum_cons]
    rw [show q + 1 - c.2 - wsum a = q + 1 - (c.2 + wsum a) from by omega]

theorem tk_pos : ∀ (n : Nat) (l : Bs), l.length ≤ n → ∀ c ∈ tk l, 1 ≤ c.2 ∧ c.2 ≤ 4
  | 0, l, h => by
    have : l = [] := List.length_eq_zero_iff.1 (by omega)
    subst this
    intro c hc; simp [tk_nil] at hc
  | n + 1, l, h => by
    intro c hc
    by_cases hl : l = []
    · subst hl; simp [tk_nil] at hc
    · rw [tk_cons l hl] at hc
      rcases List.mem_cons.1 hc with rfl | hc
      · exact wid_bounds l
      · have h1 := (wid_bounds l).1
        have : 1 ≤ l.length := by cases l; contradiction; simp
        exact tk_pos n _ (by simp; omega) c hc
theorem tk_wid (l : Bs) : ∀ c ∈ tk l, 1 ≤ c.2 ∧ c.2 ≤ 4 := tk_pos l.length l (Nat.le_refl _)

theorem Cut.pos {l : Bs} {a : List (Nat × Nat)} {p : Nat} (h : Cut l a p) : ∀ c ∈ a, 1 ≤ c.2 := fun c hc => (tk_wid l c (by rw [h.2.1]; simp [hc])).1

theorem Cut.take {l : Bs} {a : List (Nat × Nat)} {p : Nat} (h : Cut l a p) : a = (tk l).take a.length := by rw [h.2.1]; simp
theorem Cut.le_count {l : Bs} {a : List (Nat × Nat)} {p : Nat} (h : Cut l a p) : a.length ≤ countN l := by unfold countN; rw [h.2.1]; simp
theorem Cut.lt_count {l : Bs} {a : List (Nat × Nat)} {p : Nat} (h : Cut l a p) (hp : p < l.length) : a.length < countN l := by
  have := (h.step hp).le_count
  simp at this; omega
/-- the place of a character -/
def atN (l : Bs) (n : Nat) : Nat := wsum ((tk l).take n)
theorem Cut.at' {l : Bs} {a : List (Nat × Nat)} {p : Nat} (h : Cut l a p) : atN l a.length = p := by unfold atN; rw [← h.take, h.2.2]
theorem cut_at (l : Bs) (n : Nat) (h : n ≤ countN l) : Cut l ((tk l).take n) (atN l n) := by
  induction n with
  | zero => simpa [atN, wsum] using Cut.zero l
  | succ n ih =>
    have h1 := ih (by omega)
    have hp : atN l n < l.length := by
      rcases Nat.lt_or_ge (atN l n) l.length with h2 | h2
      · exact h2
      · have h3 := (h1.end' (by omega)).1
        have h4 := congrArg List.length h3
        simp at h4; unfold countN at h; omega
    have h2 := h1.step hp
    have h3 := h2.take
    have hl : ((tk l).take n ++ [decodeL (l.drop (atN l n))]).length = n + 1 := by unfold countN at h; simp; omega
    rw [hl] at h3
    rw [h3] at h2
    have h4 := h2.2.2
    have : atN l (n + 1) = atN l n + (decodeL (l.drop (atN l n))).2 := h4
    rw [this]
    exact h2
theorem atN_full (l : Bs) : atN l (countN l) = l.length := by have := (Cut.full l).at'; unfold countN; exact this

theorem ofT_cut {l : Bs} {a : List (Nat × Nat)} {p q : Nat} (h : Cut l a p) (hl : p < l.length) (h1 : p ≤ q) (h2 : q < p + (decodeL (l.drop p)).2) : ofT (tk l) q = a.length := by
  have hne : l.drop p ≠ [] := by intro e; have := congrArg List.length e; simp at this; omega
  rw [h.2.1, ofT_append _ _ _ (by rw [h.2.2]; exact h1), h.2.2, tk_cons _ hne, ofT, if_pos (by omega)]
  omega
theorem ofT_end (l : Bs) : ofT (tk l) l.length = countN l := by
  have h := Cut.full l
  have := ofT_append (tk l) [] l.length (by rw [h.2.2]; exact Nat.le_refl _)
  simpa [h.2.2, ofT, countN] using this

theorem bordT_iff (l : Bs) (p : Nat) (hp : p ≤ l.length) : bordT (tk l) p = true ↔ Border l p := by
  obtain ⟨a, q, ha, hq, h⟩ := Cut.find l p hp
  rw [ha.2.1, bordT_append _ _ _ (by rw [ha.2.2]; exact hq) ha.pos, ha.2.2]
  by_cases e : q = p
  · subst e
    rw [Nat.sub_self]
    constructor
    · intro _; exact ⟨a, ha⟩
    · intro _; cases tk (l.drop q) <;> rfl
  · rcases h with ⟨h1, h2⟩ | ⟨h1, h2⟩
    · have hne : l.drop q ≠ [] := by intro e; have := congrArg List.length e; simp at this; omega
      obtain ⟨m, hm⟩ : ∃ m, p - q = m + 1 := ⟨p - q - 1, by omega⟩
      rw [hm, tk_cons _ hne, bordT, if_pos (by omega)]
      constructor
      · intro h; cases h
      · intro hb; exact absurd hb (not_border_within ⟨a, ha⟩ (by omega) h2 h1)
    · exact absurd h2 e

/-- Begins, of any number. -/
def begB (l : Bs) (at' : Int) : Bool := decide (0 ≤ at') && decide (at' ≤ (l.length : Int)) && bordT (tk l) at'.toNat
/-- At, of any number: the place and the error. -/
def atZ (l : Bs) (c : Int) : Int × Int := if 0 ≤ c ∧ c ≤ (countN l : Int) then ((atN l c.toNat : Nat), 0) else (0, 6)
/-- Of, of any number. -/
def ofZ (l : Bs) (at' : Int) : Int × Int := if 0 ≤ at' ∧ at' ≤ (l.length : Int) then ((ofT (tk l) at'.toNat : Nat), 0) else (0, 6)

/-! ### the last character -/
def lastC (l : Bs) : Nat × Nat := (tk l).getLast?.getD (65533, 1)

theorem lastC_of {l : Bs} {q : Nat} (hb : Border l q) (hq : q < l.length) (hw : q + (decodeL (l.drop q)).2 = l.length) : lastC l = decodeL (l.drop q) := by
  obtain ⟨a, ha⟩ := hb
  have h1 := ha.step hq
  have h2 := (h1.end' (by omega)).1
  unfold lastC
  rw [← h2]
  simp

/-- the last byte is a character by itself, and wrong -/
theorem lastC_wrong {l : Bs} (hl : 1 ≤ l.length) (hf : Fol (by' l (l.length - 1))) (hb : Border l (l.length - 1)) : lastC l = (65533, 1) := by
  have hd := dec_fol (l.drop (l.length - 1)) (by rw [by_drop, Nat.add_zero]; exact hf)
  rw [← hd]
  exact lastC_of hb (by omega) (by rw [hd]; simp; omega)

/-- What a look back from the end finds: k bytes ahead of it the nearest byte that does not follow. -/
theorem lastC_back {l : Bs} {k : Nat} (hk : 1 ≤ k) (hkl : k ≤ l.length) (hf : ∀ j, 1 ≤ j → j < k → Fol (by' l (l.length - j))) (hn : ¬ Fol (by' l (l.length - k))) :
    ((decodeL (l.drop (l.length - k))).2 = k → lastC l = decodeL (l.drop (l.length - k))) ∧
    ((decodeL (l.drop (l.length - k))).2 ≠ k → lastC l = (65533, 1)) := by
  have hb := border_nofol l (l.length - k) (by omega) hn
  refine ⟨fun h => lastC_of hb (by omega) (by omega), fun h => ?_⟩
  have hne : l.drop (l.length - k) ≠ [] := by intro e; have := congrArg List.length e; simp at this; omega
  have hw := wid_le _ hne
  have hw1 := (wid_bounds (l.drop (l.length - k))).1
  simp at hw
  have hk2 : 2 ≤ k := by omega
  have hfl := hf 1 (by omega) (by omega)
  refine lastC_wrong (by omega) hfl ?_
  have e : l.length - k = (l.length - 1) - (k - 1) := by omega
  rw [border_iff_back (k := k - 1) (by omega) (by omega) (by omega) (by rw [← e]; exact hn) (fun i h1 h2 => ?_)]
  · rw [← e]; omega
  · have := hf (l.length - i) (by omega) (by omega)
    rwa [show l.length - (l.length - i) = i from by omega] at this

theorem lastC_far {l : Bs} (hl : 1 ≤ l.length) (hf : ∀ j, 1 ≤ j → j ≤ 4 → j ≤ l.length → Fol (by' l (l.length - j))) : lastC l = (65533, 1) := by
  have hfl := hf 1 (by omega) (by omega) hl
  refine lastC_wrong hl hfl ?_
  have h0 : ∀ i, l.length - 4 ≤ i → i < l.length → Fol (by' l i) := fun i h1 h2 => by
    have := hf (l.length - i) (by omega) (by omega) (by omega)
    rwa [show l.length - (l.length - i) = i from by omega] at this
  by_cases h : l.length ≤ 4
  · exact border_far (k := l.length - 1) (by omega) (.inr rfl) (Nat.le_refl _) (fun i _ h2 => h0 i (by omega) (by omega))
  · exact border_far (k := 3) (by omega) (.inl rfl) (by omega) (fun i h1 h2 => h0 i (by omega) (by omega))

end Go.Proofs.YtkknmbkfiiidmaaDoor
