/-
  The plain law of a tally: characters and line ends of a text, and what a seam changes. No program.
-/
import Derived.Test.YtpihmbdfhhjleaaDoorSeam
namespace Go.Proofs.YtpihmbdfhhjleaaDoor
open Go.RowKit

/-- runes that end a line by themselves -/
def sepN (r : Nat) : Bool := decide (r = 133 ∨ r = 8232 ∨ r = 8233)
def lfHead : List (Nat × Nat) → Bool
  | [] => false
  | d :: _ => d.1 == 10
/-- line ends, as the document counts them -/
def linT : List (Nat × Nat) → Nat
  | [] => 0
  | d :: t => (if d.1 = 10 ∨ (d.1 = 13 ∧ lfHead t = false) ∨ sepN d.1 = true then 1 else 0) + linT t
/-- line ends, as the program counts them -/
def linC : Bool → List (Nat × Nat) → Nat
  | _, [] => 0
  | c, d :: t => (if (d.1 = 10 ∧ c = false) ∨ d.1 = 13 ∨ sepN d.1 = true then 1 else 0) + linC (d.1 == 13) t
def crLast : List (Nat × Nat) → Bool
  | [] => false
  | d :: t => match t with | [] => d.1 == 13 | _ :: _ => crLast t

theorem crLast_one (d : Nat × Nat) : crLast [d] = (d.1 == 13) := rfl
theorem crLast_cons (d e : Nat × Nat) (t : List (Nat × Nat)) : crLast (d :: e :: t) = crLast (e :: t) := rfl
theorem crLast_snoc : ∀ (x : List (Nat × Nat)) (d : Nat × Nat), crLast (x ++ [d]) = (d.1 == 13)
  | [], d => rfl
  | [e], d => rfl
  | e :: f :: x, d => by
    have := crLast_snoc (f :: x) d
    simpa [crLast_cons] using this

theorem linC_linT : ∀ (t : List (Nat × Nat)) (c : Bool), linC c t + (if c = true ∧ lfHead t = true then 1 else 0) = linT t
  | [], c => by simp [linC, linT, lfHead]
  | d :: t, c => by
    have h := linC_linT t (d.1 == 13)
    rw [linT, linC, ← h]
    by_cases h10 : d.1 = 10
    · cases c <;> simp [h10, lfHead, sepN] <;> omega
    · by_cases h13 : d.1 = 13
      · cases hl : lfHead t <;> simp [h13, lfHead, sepN] <;> omega
      · simp [h10, h13, lfHead]

theorem linC_snoc : ∀ (x : List (Nat × Nat)) (c : Bool) (d : Nat × Nat),
    linC c (x ++ [d]) = linC c x + (if (d.1 = 10 ∧ (if x = [] then c else crLast x) = false) ∨ d.1 = 13 ∨ sepN d.1 = true then 1 else 0)
  | [], c, d => by simp [linC]
  | [e], c, d => by simp [linC, crLast_one]
  | e :: f :: x, c, d => by
    have h := linC_snoc (f :: x) (e.1 == 13) d
    show (if (e.1 = 10 ∧ c = false) ∨ e.1 = 13 ∨ sepN e.1 = true then 1 else 0) + linC (e.1 == 13) (f :: x ++ [d]) = ((if (e.1 = 10 ∧ c = false) ∨ e.1 = 13 ∨ sepN e.1 = true then 1 else 0) + linC (e.1 == 13) (f :: x)) + _
    rw [h]
    simp only [reduceCtorEq, if_false, crLast_cons, Nat.add_assoc]

theorem linC_zero (x : List (Nat × Nat)) (d : Nat × Nat) :
    linC false (x ++ [d]) = linC false x + (if (d.1 = 10 ∧ crLast x = false) ∨ d.1 = 13 ∨ sepN d.1 = true then 1 else 0) := by
  rw [linC_snoc]
  by_cases h : x = []
  · subst h; rfl
  · rw [if_neg h]

theorem linC_false (t : List (Nat × Nat)) : linC false t = linT t := by
  have := linC_linT t false
  simpa using this

theorem linT_append : ∀ (x y : List (Nat × Nat)), linT (x ++ y) + (if crLast x = true ∧ lfHead y = true then 1 else 0) = linT x + linT y
  | [], y => by simp [linT, crLast]
  | [d], y => by
    rw [List.singleton_append, linT, linT, linT, crLast_one]
    by_cases h13 : d.1 = 13
    · cases hy : lfHead y <;> simp [h13, lfHead, sepN] <;> omega
    · simp [h13]
  | d :: e :: x, y => by
    have h := linT_append (e :: x) y
    rw [List.cons_append, linT, linT, crLast_cons]
    have : lfHead (e :: x ++ y) = lfHead (e :: x) := rfl
    rw [this]
    omega

theorem linT_le : ∀ t : List (Nat × Nat), linT t ≤ t.length
  | [] => by simp [linT]
  | d :: t => by
    have := linT_le t
    rw [linT, List.length_cons]
    split <;> omega

/-- Characters that are neither: nothing. -/
theorem linT_bad (n : Nat) : linT (List.replicate n ((65533, 1) : Nat × Nat)) = 0 := by
  induction n with
  | zero => rfl
  | succ n ih => rw [List.replicate_succ, linT, ih]; simp [sepN]
theorem lfHead_bad (n : Nat) (h : n ≠ 0) (y : List (Nat × Nat)) : lfHead (List.replicate n ((65533, 1) : Nat × Nat) ++ y) = false := by
  cases n with
  | zero => exact absurd rfl h
  | succ n => rw [List.replicate_succ]; rfl
theorem crLast_bad (n : Nat) : crLast (List.replicate n ((65533, 1) : Nat × Nat)) = false := by
  cases n with
  | zero => rfl
  | succ n => rw [List.replicate_succ', crLast_snoc]; rfl

/-- how many line ends a text has -/
def linN (l : Bs) : Nat := linT (tk l)
theorem linN_le (l : Bs) : linN l ≤ countN l := linT_le _
theorem linN_nil : linN [] = 0 := rfl
theorem countN_nil : countN [] = 0 := rfl

/-! ### characters and bytes -/
theorem dec_asc (l : Bs) (k : Nat) (hk : k < 128) (_ : l ≠ []) : (Lib.decodeL l).1 = k ↔ by' l 0 = k := by
  rcases dec_cases l with ⟨a, e⟩ | ⟨a, e⟩ | ⟨a, e⟩ | ⟨a, e⟩ | ⟨a, _, _, _, e⟩ <;> rw [e] <;> simp only
  · unfold Ok2 at a; unfold n2; omega
  · unfold Ok3 at a; omega
  · unfold Ok4 at a; omega
  · omega

def crE (l : Bs) : Bool := decide (1 ≤ l.length ∧ by' l (l.length - 1) = 13)
def lfB (l : Bs) : Bool := decide (1 ≤ l.length ∧ by' l 0 = 10)

theorem lfHead_tk (l : Bs) : lfHead (tk l) = lfB l := by
  unfold lfB
  by_cases h : l = []
  · subst h; rfl
  · have h1 : 1 ≤ l.length := by cases l; contradiction; simp
    rw [tk_cons l h]
    show ((Lib.decodeL l).1 == 10) = _
    have := dec_asc l 10 (by omega) h
    by_cases e : by' l 0 = 10
    · rw [this.2 e]; simp [h1, e]
    · rw [show ((Lib.decodeL l).1 == 10) = false from beq_eq_false_iff_ne.2 (fun x => e (this.1 x))]; simp [e]

theorem crLast_tk : ∀ (n : Nat) (l : Bs), l.length ≤ n → crLast (tk l) = crE l
  | 0, l, h => by
    have : l = [] := List.length_eq_zero_iff.1 (by omega)
    subst this; rfl
  | n + 1, l, h => by
    by_cases h0 : l = []
    · subst h0; rfl
    · have h1 : 1 ≤ l.length := by cases l; contradiction; simp
      have hw := wid_bounds l
      have hwl := wid_le l h0
      rw [tk_cons l h0]
      have ih := crLast_tk n (l.drop (Lib.decodeL l).2) (by simp; omega)
      by_cases h2 : l.drop (Lib.decodeL l).2 = []
      · rw [h2, tk_nil, crLast_one]
        have hlen : (Lib.decodeL l).2 = l.length := by have := congrArg List.length h2; simp at this; omega
        unfold crE
        by_cases hone : (Lib.decodeL l).2 = 1
        · have hl1 : l.length = 1 := by omega
          have := dec_asc l 13 (by omega) h0
          rw [hl1]
          by_cases e : by' l 0 = 13
          · rw [this.2 e]; simp [e]
          · rw [show ((Lib.decodeL l).1 == 13) = false from beq_eq_false_iff_ne.2 (fun x => e (this.1 x))]; simp [e]
        · have hf := wid_fol l (l.length - 1) (by omega) (by omega)
          have hn : (Lib.decodeL l).1 ≠ 13 := by
            rcases dec_cases l with ⟨a, e⟩ | ⟨a, e⟩ | ⟨a, e⟩ | ⟨a, e⟩ | ⟨a, _, _, _, e⟩
            · rw [e] at hone; simp at hone
            · rw [e]; unfold Ok2 at a; unfold n2; simp only; omega
            · rw [e]; unfold Ok3 at a; simp only; omega
            · rw [e]; unfold Ok4 at a; simp only; omega
            · rw [e]; simp
          have : by' l (l.length - 1) ≠ 13 := by unfold Fol at hf; omega
          rw [show ((Lib.decodeL l).1 == 13) = false from beq_eq_false_iff_ne.2 hn]; simp [this]
      · rw [tk_cons _ h2, crLast_cons, ← tk_cons _ h2, ih]
        have h3 : 1 ≤ (l.drop (Lib.decodeL l).2).length := by
          cases he : l.drop (Lib.decodeL l).2
          · exact absurd he h2
          · simp
        unfold crE
        rw [by_drop]
        simp only [List.length_drop] at h3 ⊢
        rw [show (Lib.decodeL l).2 + (l.length - (Lib.decodeL l).2 - 1) = l.length - 1 by omega]
        by_cases e : by' l (l.length - 1) = 13 <;> simp [e] <;> omega

/-- What stands ahead of a border: its characters. -/
theorem Cut.took {l : Bs} {done : List (Nat × Nat)} {p : Nat} (h : Cut l done p) : done = tk (l.take p) := by
  have hl : (l.take p).length = p := by rw [List.length_take]; exact Nat.min_eq_left h.1
  have e := tk_append _ (l.take p) (l.drop p) (Nat.le_refl _) (by rw [List.take_append_drop, hl]; exact ⟨done, h⟩)
  rw [List.take_append_drop] at e
  have := h.2.1
  rw [e] at this
  exact (List.append_cancel_right this).symm

theorem crLast_cut {l : Bs} {done : List (Nat × Nat)} {p : Nat} (h : Cut l done p) : crLast done = decide (1 ≤ p ∧ by' l (p - 1) = 13) := by
  rw [h.took, crLast_tk _ _ (Nat.le_refl _)]
  unfold crE
  have hl : (l.take p).length = p := by rw [List.length_take]; exact Nat.min_eq_left h.1
  rw [hl]
  by_cases hp : 1 ≤ p
  · rw [by_take _ _ _ (by omega)]
  · simp [hp]

/-! ### the seam -/
/-- what a seam makes of the characters and of the line ends -/
def seamC (a b : Bs) : Int := if closK a b = 0 then 0 else 1 - pendN a - closK a b
def seamL (a b : Bs) : Int := if closK a b = 0 then (if crE a = true ∧ lfB b = true then -1 else 0) else if sepN (Lib.decodeL (pendP a ++ b)).1 = true then 1 else 0

theorem seam_chars (a b : Bs) : (countN (a ++ b) : Int) = countN a + countN b + seamC a b := by
  have h := seam_count a b
  unfold seamC
  by_cases hc : closK a b = 0
  · rw [if_pos hc, h.1 hc]; simp
  · have := h.2 hc
    rw [if_neg hc]; omega

theorem dec_two {l : Bs} (h : 2 ≤ (Lib.decodeL l).2) : 128 ≤ (Lib.decodeL l).1 := by
  rcases dec_cases l with ⟨a, e⟩ | ⟨a, e⟩ | ⟨a, e⟩ | ⟨a, e⟩ | ⟨a, _, _, _, e⟩
  · rw [e] at h; simp at h
  · rw [e]; unfold Ok2 at a; unfold n2; simp only; omega
  · rw [e]; unfold Ok3 at a; simp only; omega
  · rw [e]; unfold Ok4 at a; simp only; omega
  · rw [e]; simp

theorem seam_lines (a b : Bs) : (linN (a ++ b) : Int) = linN a + linN b + seamL a b := by
  unfold seamL linN
  by_cases hc : closK a b = 0
  · rw [if_pos hc, tk_append _ a b (Nat.le_refl _) (seam_open hc)]
    have := linT_append (tk a) (tk b)
    rw [crLast_tk _ _ (Nat.le_refl _), lfHead_tk] at this
    split at this <;> rename_i hh <;> simp [hh] <;> omega
  · rw [if_neg hc]
    obtain ⟨_, h2, h3, h4, _⟩ := seam_closed hc
    have hp1 : pendN a ≠ 0 := by have h1 := closK_proper hc; have h2 := proper_full h1.1; rw [pendP_len] at h2; omega
    have hw := (dec_whole hc).1
    have hd := dec_two (l := pendP a ++ b) (by omega)
    obtain ⟨T1, e1⟩ : ∃ t, t = tk (a.take (a.length - pendN a)) := ⟨_, rfl⟩
    obtain ⟨T2, e2⟩ : ∃ t, t = tk (b.drop (closK a b)) := ⟨_, rfl⟩
    obtain ⟨d, ed⟩ : ∃ d, d = Lib.decodeL (pendP a ++ b) := ⟨_, rfl⟩
    rw [← e1, ← e2, ← ed] at h2
    rw [← e1] at h3
    rw [← e2] at h4
    rw [← ed] at hd ⊢
    rw [h2, h3, h4]
    have l1 := linT_append T1 (d :: T2)
    have l2 := linT_append T1 (List.replicate (pendN a) (65533, 1))
    have l3 := linT_append (List.replicate (closK a b) ((65533, 1) : Nat × Nat)) T2
    have hb1 : lfHead (d :: T2) = false := by show (d.1 == 10) = false; exact beq_eq_false_iff_ne.2 (by omega)
    have hb2 : lfHead (List.replicate (pendN a) ((65533, 1) : Nat × Nat)) = false := by have := lfHead_bad _ hp1 []; simpa using this
    rw [hb1] at l1
    rw [hb2, linT_bad] at l2
    rw [crLast_bad, linT_bad] at l3
    have hx : linT (d :: T2) = (if sepN d.1 = true then 1 else 0) + linT T2 := by
      rw [linT]
      have h10 : d.1 ≠ 10 := by omega
      have h13 : d.1 ≠ 13 := by omega
      simp [h10, h13]
    simp at l1 l2 l3
    rw [l1, l2, l3, hx]
    split <;> omega
end Go.Proofs.YtpihmbdfhhjleaaDoor
