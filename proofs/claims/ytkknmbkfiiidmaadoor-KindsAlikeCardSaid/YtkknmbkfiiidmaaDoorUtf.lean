/-
  Plain facts on texts: what characters a list of bytes has, by the model's own decoding. No program stands here.
-/
import Derived.Lib.TrimUEq
import Derived.Lib.RuneCount
namespace Go.Proofs.YtkknmbkfiiidmaaDoor
open Go.Lib

abbrev Bs := List UInt8

/-- The byte at a place, as a number; 0 beyond the end. -/
def by' (l : Bs) (i : Nat) : Nat := (l.getD i 0).toNat
theorem by_lt (l : Bs) (i : Nat) : by' l i < 256 := (l.getD i 0).toNat_lt
theorem by_drop (l : Bs) (p k : Nat) : by' (l.drop p) k = by' l (p + k) := by unfold by'; rw [getD_dropU]
theorem by_take (l : Bs) (i k : Nat) (h : k < i) : by' (l.take i) k = by' l k := by unfold by'; rw [getD_takeU _ _ _ h]
theorem by_append_left (l m : Bs) (k : Nat) (h : k < l.length) : by' (l ++ m) k = by' l k := by unfold by'; simp [List.getD, List.getElem?_append_left h]
theorem by_append_right (l m : Bs) (k : Nat) : by' (l ++ m) (l.length + k) = by' m k := by unfold by'; simp [List.getD, List.getElem?_append_right]

theorem dec_def (l : Bs) : decodeL l = decodeN l.length (by' l 0) (by' l 1) (by' l 2) (by' l 3) := decodeL_N l

/-- The numbers that two, three and four bytes say. -/
def n2 (b0 b1 : Nat) : Nat := (b0 - 192) * 64 + (b1 - 128)
def n3 (b0 b1 b2 : Nat) : Nat := (b0 - 224) * 4096 + (b1 - 128) * 64 + (b2 - 128)
def n4 (b0 b1 b2 b3 : Nat) : Nat := (b0 - 240) * 262144 + (b1 - 128) * 4096 + (b2 - 128) * 64 + (b3 - 128)

/-- When a sequence of two, three, four bytes is a right one. -/
def Ok2 (n b0 b1 : Nat) : Prop := 194 ≤ b0 ∧ b0 < 224 ∧ 2 ≤ n ∧ 128 ≤ b1 ∧ b1 < 192
def Ok3 (n b0 b1 b2 : Nat) : Prop := 224 ≤ b0 ∧ b0 < 240 ∧ 3 ≤ n ∧ 128 ≤ b1 ∧ b1 < 192 ∧ 128 ≤ b2 ∧ b2 < 192 ∧ 2048 ≤ n3 b0 b1 b2 ∧ (n3 b0 b1 b2 < 55296 ∨ 57343 < n3 b0 b1 b2)
def Ok4 (n b0 b1 b2 b3 : Nat) : Prop := 240 ≤ b0 ∧ b0 < 248 ∧ 4 ≤ n ∧ 128 ≤ b1 ∧ b1 < 192 ∧ 128 ≤ b2 ∧ b2 < 192 ∧ 128 ≤ b3 ∧ b3 < 192 ∧ 65536 ≤ n4 b0 b1 b2 b3 ∧ n4 b0 b1 b2 b3 ≤ 1114111

theorem decN_cases (n b0 b1 b2 b3 : Nat) (h0 : b0 < 256) (h1 : b1 < 256) (h2 : b2 < 256) (h3 : b3 < 256) :
    (b0 < 128 ∧ decodeN n b0 b1 b2 b3 = (b0, 1)) ∨
    (Ok2 n b0 b1 ∧ decodeN n b0 b1 b2 b3 = (n2 b0 b1, 2)) ∨
    (Ok3 n b0 b1 b2 ∧ decodeN n b0 b1 b2 b3 = (n3 b0 b1 b2, 3)) ∨
    (Ok4 n b0 b1 b2 b3 ∧ decodeN n b0 b1 b2 b3 = (n4 b0 b1 b2 b3, 4)) ∨
    (128 ≤ b0 ∧ ¬ Ok2 n b0 b1 ∧ ¬ Ok3 n b0 b1 b2 ∧ ¬ Ok4 n b0 b1 b2 b3 ∧ decodeN n b0 b1 b2 b3 = (65533, 1)) := by
  unfold Ok2 Ok3 Ok4 n2 n3 n4 decodeN
  by_cases a0 : b0 < 128
  · rw [if_pos a0]; exact .inl ⟨a0, rfl⟩
  rw [if_neg a0]
  right
  by_cases a2 : b0 / 32 = 6 ∧ (1 < n ∧ b1 / 64 = 2)
  · rw [if_pos a2]
    have e : b0 % 32 * 64 + b1 % 64 = (b0 - 192) * 64 + (b1 - 128) := by omega
    rw [e]
    by_cases c : (b0 - 192) * 64 + (b1 - 128) ≥ 128
    · rw [if_pos c]; left
      exact ⟨by omega, rfl⟩
    · rw [if_neg c]; right; right; right
      refine ⟨by omega, by omega, by omega, by omega, rfl⟩
  rw [if_neg a2]
  by_cases a3 : b0 / 16 = 14 ∧ (1 < n ∧ b1 / 64 = 2) ∧ (2 < n ∧ b2 / 64 = 2)
  · rw [if_pos a3]
    have e : b0 % 16 * 4096 + b1 % 64 * 64 + b2 % 64 = (b0 - 224) * 4096 + (b1 - 128) * 64 + (b2 - 128) := by omega
    rw [e]
    split
    · right; left
      exact ⟨by omega, rfl⟩
    · right; right; right
      refine ⟨by omega, by omega, by omega, by omega, rfl⟩
  rw [if_neg a3]
  by_cases a4 : b0 / 8 = 30 ∧ (1 < n ∧ b1 / 64 = 2) ∧ (2 < n ∧ b2 / 64 = 2) ∧ (3 < n ∧ b3 / 64 = 2)
  · rw [if_pos a4]
    have e : b0 % 8 * 262144 + b1 % 64 * 4096 + b2 % 64 * 64 + b3 % 64 = (b0 - 240) * 262144 + (b1 - 128) * 4096 + (b2 - 128) * 64 + (b3 - 128) := by omega
    rw [e]
    split
    · right; right; left
      exact ⟨by omega, rfl⟩
    · right; right; right
      refine ⟨by omega, by omega, by omega, by omega, rfl⟩
  rw [if_neg a4]
  right; right; right
  refine ⟨by omega, by omega, by omega, by omega, rfl⟩

/-- The same of a list of bytes. -/
theorem dec_cases (l : Bs) :
    (by' l 0 < 128 ∧ decodeL l = (by' l 0, 1)) ∨
    (Ok2 l.length (by' l 0) (by' l 1) ∧ decodeL l = (n2 (by' l 0) (by' l 1), 2)) ∨
    (Ok3 l.length (by' l 0) (by' l 1) (by' l 2) ∧ decodeL l = (n3 (by' l 0) (by' l 1) (by' l 2), 3)) ∨
    (Ok4 l.length (by' l 0) (by' l 1) (by' l 2) (by' l 3) ∧ decodeL l = (n4 (by' l 0) (by' l 1) (by' l 2) (by' l 3), 4)) ∨
    (128 ≤ by' l 0 ∧ ¬ Ok2 l.length (by' l 0) (by' l 1) ∧ ¬ Ok3 l.length (by' l 0) (by' l 1) (by' l 2) ∧ ¬ Ok4 l.length (by' l 0) (by' l 1) (by' l 2) (by' l 3) ∧ decodeL l = (65533, 1)) := by
  rw [dec_def]
  exact decN_cases _ _ _ _ _ (by_lt _ _) (by_lt _ _) (by_lt _ _) (by_lt _ _)

/-- A byte that stands behind the first one of a sequence. -/
def Fol (b : Nat) : Prop := 128 ≤ b ∧ b < 192
instance (b : Nat) : Decidable (Fol b) := inferInstanceAs (Decidable (_ ∧ _))

theorem wid_bounds (l : Bs) : 1 ≤ (decodeL l).2 ∧ (decodeL l).2 ≤ 4 := by
  rcases dec_cases l with ⟨_, h⟩ | ⟨_, h⟩ | ⟨_, h⟩ | ⟨_, h⟩ | ⟨_, _, _, _, h⟩ <;> rw [h] <;> simp

theorem wid_le (l : Bs) (h : l ≠ []) : (decodeL l).2 ≤ l.length := by
  have hl : 1 ≤ l.length := by cases l; contradiction; simp
  rcases dec_cases l with ⟨_, h⟩ | ⟨a, h⟩ | ⟨a, h⟩ | ⟨a, h⟩ | ⟨_, _, _, _, h⟩ <;> rw [h] <;> simp
  · exact hl
  · exact a.2.2.1
  · exact a.2.2.1
  · exact a.2.2.1
  · exact hl

/-- Inside a character every byte but the first one follows. -/
theorem wid_fol (l : Bs) (k : Nat) (h1 : 1 ≤ k) (h2 : k < (decodeL l).2) : Fol (by' l k) := by
  rcases dec_cases l with ⟨_, h⟩ | ⟨a, h⟩ | ⟨a, h⟩ | ⟨a, h⟩ | ⟨_, _, _, _, h⟩ <;> rw [h] at h2 <;> simp at h2
  · omega
  · obtain rfl : k = 1 := by omega
    exact ⟨a.2.2.2.1, a.2.2.2.2⟩
  · obtain ⟨_, _, _, a1, a2, a3, a4, _, _⟩ := a
    obtain rfl | rfl : k = 1 ∨ k = 2 := by omega
    · exact ⟨a1, a2⟩
    · exact ⟨a3, a4⟩
  · obtain ⟨_, _, _, a1, a2, a3, a4, a5, a6, _, _⟩ := a
    obtain rfl | rfl | rfl : k = 1 ∨ k = 2 ∨ k = 3 := by omega
    · exact ⟨a1, a2⟩
    · exact ⟨a3, a4⟩
    · exact ⟨a5, a6⟩
  · omega

/-- A byte that follows begins no character of more bytes. -/
theorem dec_fol (l : Bs) (h : Fol (by' l 0)) : decodeL l = (65533, 1) := by
  obtain ⟨h0, h1⟩ := h
  rcases dec_cases l with ⟨a, h⟩ | ⟨a, h⟩ | ⟨a, h⟩ | ⟨a, h⟩ | ⟨_, _, _, _, h⟩
  · omega
  · have := a.1; omega
  · have := a.1; omega
  · have := a.1; omega
  · exact h

theorem dec_le (l : Bs) : (decodeL l).1 ≤ 1114111 := by
  have := by_lt l 0
  rcases dec_cases l with ⟨a, h⟩ | ⟨a, h⟩ | ⟨a, h⟩ | ⟨a, h⟩ | ⟨_, _, _, _, h⟩ <;> rw [h] <;> simp
  · omega
  · obtain ⟨_, _, _, _, _⟩ := a; unfold n2; omega
  · obtain ⟨_, _, _, _, _, _, _, _, _⟩ := a; unfold n3; omega
  · exact a.2.2.2.2.2.2.2.2.2.2

/-! ### Characters -/
def toks : Nat → Bs → List (Nat × Nat)
  | 0, _ => []
  | f + 1, l => if l = [] then [] else decodeL l :: toks f (l.drop (decodeL l).2)
/-- The characters of a text: rune and width of each. -/
def tk (l : Bs) : List (Nat × Nat) := toks l.length l

theorem toks_fuel : ∀ (f g : Nat) (l : Bs), l.length ≤ f → l.length ≤ g → toks f l = toks g l
  | 0, g, l, h, _ => by
    have : l = [] := List.length_eq_zero_iff.1 (by omega)
    subst this
    cases g <;> simp [toks]
  | f + 1, 0, l, _, h => by
    have : l = [] := List.length_eq_zero_iff.1 (by omega)
    subst this
    simp [toks]
  | f + 1, g + 1, l, hf, hg => by
    unfold toks
    by_cases h : l = []
    · simp [h]
    · rw [if_neg h, if_neg h]
      have hw := (wid_bounds l).1
      have hd : (l.drop (decodeL l).2).length ≤ l.length - 1 := by simp; omega
      rw [toks_fuel f g _ (by omega) (by omega)]

theorem tk_nil : tk [] = [] := rfl
theorem tk_cons (l : Bs) (h : l ≠ []) : tk l = decodeL l :: tk (l.drop (decodeL l).2) := by
  have hl : l.length = (l.length - 1) + 1 := by cases l; contradiction; simp
  unfold tk
  rw [hl]
  conv => lhs; unfold toks
  rw [if_neg h]
  have hw := (wid_bounds l).1
  rw [toks_fuel (l.length - 1) (l.drop (decodeL l).2).length _ (by simp; omega) (Nat.le_refl _)]

/-- how many bytes some characters have -/
def wsum (t : List (Nat × Nat)) : Nat := (t.map (·.2)).sum
theorem wsum_nil : wsum [] = 0 := rfl
theorem wsum_cons (c : Nat × Nat) (t : List (Nat × Nat)) : wsum (c :: t) = c.2 + wsum t := by simp [wsum]
theorem wsum_append (a b : List (Nat × Nat)) : wsum (a ++ b) = wsum a + wsum b := by simp [wsum]

/-- 'done' are the characters ahead of place p, and p is a border. -/
def Cut (l : Bs) (done : List (Nat × Nat)) (p : Nat) : Prop := p ≤ l.length ∧ tk l = done ++ tk (l.drop p) ∧ wsum done = p

theorem Cut.zero (l : Bs) : Cut l [] 0 := ⟨Nat.zero_le _, by simp, rfl⟩
theorem Cut.step {l : Bs} {done : List (Nat × Nat)} {p : Nat} (h : Cut l done p) (hp : p < l.length) : Cut l (done ++ [decodeL (l.drop p)]) (p + (decodeL (l.drop p)).2) := by
  obtain ⟨h1, h2, h3⟩ := h
  have hne : l.drop p ≠ [] := by intro e; have := congrArg List.length e; simp at this; omega
  refine ⟨?_, ?_, ?_⟩
  · have := wid_le (l.drop p) hne
    simp at this; omega
  · rw [h2, tk_cons _ hne, List.drop_drop]; simp
  · rw [wsum_append, h3, wsum_cons, wsum_nil]; omega
theorem Cut.end' {l : Bs} {done : List (Nat × Nat)} {p : Nat} (h : Cut l done p) (hp : ¬ p < l.length) : done = tk l ∧ p = l.length := by
  obtain ⟨h1, h2, h3⟩ := h
  have : p = l.length := by omega
  subst this
  rw [List.drop_length, tk_nil, List.append_nil] at h2
  exact ⟨h2.symm, rfl⟩
theorem Cut.len_le {l : Bs} {done : List (Nat × Nat)} {p : Nat} (h : Cut l done p) : done.length ≤ p := by
  obtain ⟨h1, h2, h3⟩ := h
  subst h3
  have : ∀ (t r : List (Nat × Nat)) (m : Bs), tk m = t ++ r → t.length ≤ wsum t := by
    intro t
    induction t with
    | nil => intro r m _; simp
    | cons c t ih =>
      intro r m e
      by_cases hm : m = []
      · subst hm; simp [tk_nil] at e
      · rw [tk_cons m hm] at e
        have e1 := (List.cons.inj e).1
        have := ih _ _ (List.cons.inj e).2
        rw [wsum_cons, ← e1]
        have := (wid_bounds m).1
        simp; omega
  exact this done _ l h2
theorem Cut.full (l : Bs) : Cut l (tk l) l.length := by
  have : ∀ (n : Nat) (m : Bs), m.length ≤ n → wsum (tk m) = m.length := by
    intro n
    induction n with
    | zero => intro m hm; have : m = [] := List.length_eq_zero_iff.1 (by omega); subst this; rfl
    | succ n ih =>
      intro m hm
      by_cases h : m = []
      · subst h; rfl
      · rw [tk_cons m h, wsum_cons]
        have h1 := (wid_bounds m).1
        have h2 := wid_le m h
        rw [ih _ (by simp; omega)]
        simp; omega
  exact ⟨Nat.le_refl _, by rw [List.drop_length, tk_nil]; simp, this _ l (Nat.le_refl _)⟩

/-- Two cuts at one place are one; places rise with what is done. -/
theorem Cut.unique {l : Bs} {a b : List (Nat × Nat)} {p q : Nat} (h : Cut l a p) (k : Cut l b q) (hpq : p ≤ q) : ∃ c, b = a ++ c ∧ tk (l.drop p) = c ++ tk (l.drop q) ∧ p + wsum c = q := by
  obtain ⟨h1, h2, h3⟩ := h
  obtain ⟨k1, k2, k3⟩ := k
  have e : a ++ tk (l.drop p) = b ++ tk (l.drop q) := by rw [← h2, ← k2]
  rcases List.append_eq_append_iff.1 e with ⟨c, hb, hc⟩ | ⟨c, ha, hc⟩
  · exact ⟨c, hb, hc, by rw [← h3, ← k3, hb, wsum_append]⟩
  · have h4 : wsum c = 0 := by rw [ha, wsum_append] at h3; omega
    have hpos : ∀ (t r : List (Nat × Nat)) (m : Bs), tk m = t ++ r → wsum t = 0 → t = [] := by
      intro t r m e h
      cases t with
      | nil => rfl
      | cons x t =>
        by_cases hm : m = []
        · subst hm; simp [tk_nil] at e
        · rw [tk_cons m hm] at e
          have e1 := (List.cons.inj e).1
          rw [wsum_cons, ← e1] at h
          have := (wid_bounds m).1
          omega
    have hc0 : c = [] := hpos c _ (l.drop q) hc h4
    subst hc0
    have hab : a = b := by simpa using ha
    subst hab
    exact ⟨[], by simp, by simpa using hc.symm, by rw [wsum_nil]; omega⟩

/-- Each place lies in a character, or is the end. -/
theorem Cut.find (l : Bs) (p : Nat) (hp : p ≤ l.length) : ∃ done q, Cut l done q ∧ q ≤ p ∧ ((q < l.length ∧ p < q + (decodeL (l.drop q)).2) ∨ (p = l.length ∧ q = p)) := by
  have : ∀ (n : Nat) (done : List (Nat × Nat)) (q : Nat), Cut l done q → q ≤ p → p - q ≤ n → ∃ done q, Cut l done q ∧ q ≤ p ∧ ((q < l.length ∧ p < q + (decodeL (l.drop q)).2) ∨ (p = l.length ∧ q = p)) := by
    intro n
    induction n with
    | zero =>
      intro done q hc hq hn
      obtain rfl : q = p := by omega
      by_cases hl : q < l.length
      · exact ⟨done, q, hc, Nat.le_refl _, .inl ⟨hl, by have := (wid_bounds (l.drop q)).1; omega⟩⟩
      · exact ⟨done, q, hc, Nat.le_refl _, .inr ⟨by omega, rfl⟩⟩
    | succ n ih =>
      intro done q hc hq hn
      by_cases hl : q < l.length
      · by_cases hw : p < q + (decodeL (l.drop q)).2
        · exact ⟨done, q, hc, hq, .inl ⟨hl, hw⟩⟩
        · exact ih _ _ (hc.step hl) (by omega) (by have := (wid_bounds (l.drop q)).1; omega)
      · have := hc.1
        exact ⟨done, q, hc, hq, .inr ⟨by omega, by omega⟩⟩
  exact this p [] 0 (Cut.zero l) (Nat.zero_le _) (by omega)

/-- A border: a character begins there, or the text ends. -/
def Border (l : Bs) (p : Nat) : Prop := ∃ done, Cut l done p

/-- Where no following byte stands, a character begins. -/
theorem border_nofol (l : Bs) (p : Nat) (hp : p < l.length) (hf : ¬ Fol (by' l p)) : Border l p := by
  obtain ⟨done, q, hc, hq, h⟩ := Cut.find l p (by omega)
  rcases h with ⟨_, hw⟩ | ⟨h1, _⟩
  · by_cases e : q = p
    · subst e; exact ⟨done, hc⟩
    · have := wid_fol (l.drop q) (p - q) (by omega) (by omega)
      rw [by_drop, show q + (p - q) = p from by omega] at this
      exact absurd this hf
  · omega

/-- No border lies within a character. -/
theorem not_border_within {l : Bs} {q p : Nat} (hq : Border l q) (h1 : q < p) (h2 : p < q + (decodeL (l.drop q)).2) (hl : q < l.length) : ¬ Border l p := by
  rintro ⟨b, hb⟩
  obtain ⟨a, ha⟩ := hq
  obtain ⟨c, _, hc, hs⟩ := ha.unique hb (by omega)
  have hne : l.drop q ≠ [] := by intro e; have := congrArg List.length e; simp at this; omega
  cases c with
  | nil => simp [wsum] at hs; omega
  | cons x c =>
    rw [tk_cons _ hne] at hc
    have e1 := (List.cons.inj hc).1
    rw [wsum_cons, ← e1] at hs
    omega

/-- Behind a border and its character, over following bytes, each place is a border. -/
theorem border_run {l : Bs} {q : Nat} (hq : Border l q) (p : Nat) (hqp : q ≤ p) (hp : p ≤ l.length) (hf : ∀ i, q ≤ i → i < p → Fol (by' l i)) : Border l p := by
  induction p with
  | zero => obtain rfl : q = 0 := by omega
            exact hq
  | succ p ih =>
    by_cases e : q = p + 1
    · subst e; exact hq
    · obtain ⟨a, ha⟩ := ih (by omega) (by omega) (fun i h1 h2 => hf i h1 (by omega))
      have h1 := ha.step (by omega)
      rw [dec_fol (l.drop p) (by rw [by_drop]; exact hf p (by omega) (by omega))] at h1
      exact ⟨_, h1⟩

/-- The places that stand k bytes behind the nearest byte that does not follow. -/
theorem border_iff_back {l : Bs} {p k : Nat} (hp : p ≤ l.length) (hk : 1 ≤ k) (hkp : k ≤ p) (hnf : ¬ Fol (by' l (p - k))) (hf : ∀ i, p - k < i → i < p → Fol (by' l i)) :
    Border l p ↔ (decodeL (l.drop (p - k))).2 ≤ k := by
  have hq := border_nofol l (p - k) (by omega) hnf
  constructor
  · intro hb
    rcases Nat.lt_or_ge k (decodeL (l.drop (p - k))).2 with h | h
    · exact absurd hb (not_border_within hq (by omega) (by omega) (by omega))
    · exact h
  · intro hw
    obtain ⟨a, ha⟩ := hq
    have h1 := ha.step (by omega)
    have := (wid_bounds (l.drop (p - k))).1
    exact border_run ⟨_, h1⟩ p (by omega) hp (fun i h2 h3 => hf i (by omega) h3)

/-- Where three bytes that follow stand ahead (or all bytes ahead follow) a place is a border. -/
theorem border_far {l : Bs} {p k : Nat} (hp : p ≤ l.length) (hk : k = 3 ∨ k = p) (hkp : k ≤ p) (hf : ∀ i, p - k ≤ i → i < p → Fol (by' l i)) : Border l p := by
  obtain ⟨done, q, hc, hq, h⟩ := Cut.find l p hp
  rcases h with ⟨hl, hw⟩ | ⟨h1, h2⟩
  · by_cases e : q = p
    · subst e; exact ⟨done, hc⟩
    · have h4 := (wid_bounds (l.drop q)).2
      have : p - k ≤ q := by omega
      have := dec_fol (l.drop q) (by rw [by_drop]; exact hf q this (by omega))
      rw [this] at hw
      simp at hw
      omega
  · subst h2; exact ⟨done, hc⟩

end Go.Proofs.YtkknmbkfiiidmaaDoor
