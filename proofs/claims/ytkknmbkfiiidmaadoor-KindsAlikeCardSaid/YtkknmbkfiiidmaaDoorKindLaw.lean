/-
  What runes are: the document's ranges as lists, and plain facts about them (no program in sight).
-/
import Derived.Lib.Hide
namespace Go.Proofs.YtkknmbkfiiidmaaDoor
open Go.RowKit
/-- r lies in one of the ranges. -/
def inR (l : List (Int × Int)) (r : Int) : Bool := l.any fun p => decide (p.1 ≤ r) && decide (r ≤ p.2)
def blankL : List (Int × Int) := [(0x9, 0xd), (0x20, 0x20), (0x85, 0x85), (0xa0, 0xa0), (0x1680, 0x1680), (0x2000, 0x200a), (0x2028, 0x2029), (0x202f, 0x202f), (0x205f, 0x205f), (0x3000, 0x3000)]
def wordL : List (Int × Int) := [(0x30, 0x39), (0x41, 0x5a), (0x5f, 0x5f), (0x61, 0x7a), (0xaa, 0xaa), (0xb5, 0xb5), (0xba, 0xba), (0xc0, 0xd6), (0xd8, 0xf6), (0xf8, 0x37d), (0x37f, 0x386), (0x388, 0x52f), (0x531, 0x556), (0x561, 0x587), (0x5d0, 0x5ea), (0x620, 0x669), (0x904, 0x939), (0xe01, 0xe30), (0x10a0, 0x10ff), (0x1e00, 0x1fff), (0x3041, 0x3096), (0x30a1, 0x30fa), (0x3400, 0x4dbf), (0x4e00, 0x9fff), (0xac00, 0xd7a3), (0xf900, 0xfaff), (0xff10, 0xff19), (0xff21, 0xff3a), (0xff41, 0xff5a), (0xff66, 0xff9d), (0x10400, 0x1044f), (0x1d400, 0x1d7ff), (0x20000, 0x2fa1f)]
def zeroL : List (Int × Int) := [(0x0, 0x1f), (0x7f, 0x9f), (0x300, 0x36f), (0x483, 0x489), (0x591, 0x5bd), (0x610, 0x61a), (0x64b, 0x65f), (0x200b, 0x200f), (0x2028, 0x202e), (0x2060, 0x2064), (0x20d0, 0x20ff), (0xfe00, 0xfe0f), (0xfe20, 0xfe2f), (0xfeff, 0xfeff), (0xe0100, 0xe01ef)]
def wideL : List (Int × Int) := [(0x1100, 0x115f), (0x2e80, 0x303e), (0x3041, 0x4dbf), (0x4e00, 0xa4cf), (0xac00, 0xd7a3), (0xf900, 0xfaff), (0xfe30, 0xfe6f), (0xff00, 0xff60), (0xffe0, 0xffe6), (0x1f300, 0x1f64f), (0x1f680, 0x1f6ff), (0x1f900, 0x1f9ff), (0x20000, 0x3fffd)]
def foldL : List (Int × Int × Int × Int) := [(0x41, 0x5a, 1, 0x20), (0xc0, 0xd6, 1, 0x20), (0xd8, 0xde, 1, 0x20), (0x100, 0x12e, 2, 0x1), (0x132, 0x136, 2, 0x1), (0x139, 0x147, 2, 0x1), (0x14a, 0x176, 2, 0x1), (0x178, 0x178, 1, -0x79), (0x179, 0x17d, 2, 0x1), (0x17f, 0x17f, 1, -0x10c), (0x386, 0x386, 1, 0x26), (0x388, 0x38a, 1, 0x25), (0x38c, 0x38c, 1, 0x40), (0x38e, 0x38f, 1, 0x3f), (0x391, 0x3a1, 1, 0x20), (0x3a3, 0x3ab, 1, 0x20), (0x3c2, 0x3c2, 1, 0x1), (0x3d8, 0x3ee, 2, 0x1), (0x400, 0x40f, 1, 0x50), (0x410, 0x42f, 1, 0x20), (0x460, 0x480, 2, 0x1), (0x48a, 0x4be, 2, 0x1), (0x4c1, 0x4cd, 2, 0x1), (0x4d0, 0x52e, 2, 0x1), (0x531, 0x556, 1, 0x30), (0x1e00, 0x1e94, 2, 0x1), (0x1e9e, 0x1e9e, 1, -0x1dbf), (0x1ea0, 0x1efe, 2, 0x1), (0x2126, 0x2126, 1, -0x1d5d), (0x212a, 0x212a, 1, -0x20bf), (0x212b, 0x212b, 1, -0x2046), (0x2160, 0x216f, 1, 0x10), (0x24b6, 0x24cf, 1, 0x1a), (0xff21, 0xff3a, 1, 0x20), (0x10400, 0x10427, 1, 0x28)]
def blankB (r : Int) : Bool := inR blankL r
def wordB (r : Int) : Bool := inR wordL r
def endsB (r : Int) : Bool := inR [(0xa, 0xa), (0xd, 0xd), (0x85, 0x85), (0x2028, 0x2029)] r
def widthN (r : Int) : Nat := if inR zeroL r then 0 else if inR wideL r then 2 else 1
/-- a row of the folds fits r -/
def fitB (r : Int) (q : Int × Int × Int × Int) : Bool := decide (q.1 ≤ r) && decide (r ≤ q.2.1) && (r - q.1) % q.2.2.1 == 0
def foldZ (r : Int) : Int := match foldL.find? (fitB r) with | some q => r + q.2.2.2 | none => r

theorem inR_iff {l : List (Int × Int)} {r : Int} : inR l r = true ↔ ∃ p ∈ l, p.1 ≤ r ∧ r ≤ p.2 := by
  simp [inR, List.any_eq_true]
theorem inR_false {l : List (Int × Int)} {r : Int} : inR l r = false ↔ ∀ p ∈ l, r < p.1 ∨ p.2 < r := by
  simp only [inR, List.any_eq_false, Bool.and_eq_true, decide_eq_true_eq]
  constructor
  · intro h p hp; have := h p hp; omega
  · intro h p hp; have := h p hp; omega

/-- no range of the list meets [a, b] -/
def clear' (l : List (Int × Int)) (a b : Int) : Bool := l.all fun p => decide (b < p.1) || decide (p.2 < a)
theorem clear_out {l : List (Int × Int)} {a b r : Int} (h : clear' l a b = true) (h1 : a ≤ r) (h2 : r ≤ b) : inR l r = false := by
  rw [inR_false]
  intro p hp
  have := (List.all_eq_true.1 h) p hp
  simp at this
  omega

/-- a range of the list holds [a, b] -/
def whole (l : List (Int × Int)) (a b : Int) : Bool := l.any fun p => decide (p.1 ≤ a) && decide (b ≤ p.2)
theorem whole_in {l : List (Int × Int)} {a b r : Int} (h : whole l a b = true) (h1 : a ≤ r) (h2 : r ≤ b) : inR l r = true := by
  obtain ⟨p, hp, hq⟩ := List.any_eq_true.1 h
  simp at hq
  exact inR_iff.2 ⟨p, hp, by omega, by omega⟩

/-- What is folded: it was in a row that fits. -/
theorem fold_cases (r : Int) : (foldZ r = r ∧ ∀ q ∈ foldL, fitB r q = false) ∨ ∃ q ∈ foldL, fitB r q = true ∧ foldZ r = r + q.2.2.2 := by
  unfold foldZ
  cases h : foldL.find? (fitB r) with
  | none => exact .inl ⟨rfl, fun q hq => by have := List.find?_eq_none.1 h q hq; simpa using this⟩
  | some q => exact .inr ⟨q, List.mem_of_find?_eq_some h, List.find?_some h, rfl⟩
theorem fit_iff {r : Int} {q : Int × Int × Int × Int} : fitB r q = true ↔ q.1 ≤ r ∧ r ≤ q.2.1 ∧ (r - q.1) % q.2.2.1 = 0 := by
  simp [fitB, and_assoc]

/-- each row of the folds: neither what is folded nor what comes of it is a blank, nor takes another width than 1 -/
def rowOk (q : Int × Int × Int × Int) : Bool :=
  clear' blankL q.1 q.2.1 && clear' blankL (q.1 + q.2.2.2) (q.2.1 + q.2.2.2) && clear' zeroL q.1 q.2.1 && clear' zeroL (q.1 + q.2.2.2) (q.2.1 + q.2.2.2) && (clear' wideL q.1 q.2.1 && clear' wideL (q.1 + q.2.2.2) (q.2.1 + q.2.2.2) || whole wideL q.1 q.2.1 && whole wideL (q.1 + q.2.2.2) (q.2.1 + q.2.2.2))
theorem rows_ok : ∀ q ∈ foldL, rowOk q = true := by decide +kernel
theorem fold_kind (r : Int) : blankB (foldZ r) = blankB r ∧ widthN (foldZ r) = widthN r := by
  rcases fold_cases r with ⟨h, _⟩ | ⟨q, hq, hf, h⟩
  · rw [h]; exact ⟨rfl, rfl⟩
  · have hk := rows_ok q hq
    obtain ⟨h1, h2, _⟩ := fit_iff.1 hf
    unfold rowOk at hk
    simp only [Bool.and_eq_true, Bool.or_eq_true] at hk
    obtain ⟨⟨⟨⟨k1, k2⟩, k3⟩, k4⟩, k5⟩ := hk
    rw [h]
    unfold blankB widthN
    rw [clear_out k1 h1 h2, clear_out k2 (by omega) (by omega), clear_out k3 h1 h2, clear_out k4 (by omega) (by omega)]
    rcases k5 with ⟨k5, k6⟩ | ⟨k5, k6⟩
    · rw [clear_out k5 h1 h2, clear_out k6 (by omega) (by omega)]
      exact ⟨rfl, rfl⟩
    · rw [whole_in k5 h1 h2, whole_in k6 (by omega) (by omega)]
      exact ⟨rfl, rfl⟩

/-- two rows of the folds: what comes of the one does not fit the other -/
def apartOk (q p : Int × Int × Int × Int) : Bool :=
  decide (q.2.1 + q.2.2.2 < p.1) || decide (p.2.1 < q.1 + q.2.2.2) || (decide (p.2.2.1 = 2) && decide (q.2.2.1 = 2) && decide ((q.1 + q.2.2.2 - p.1) % 2 = 1)) || (decide (q.1 = q.2.1) && (p.2.2.1 == 2) && decide ((q.1 + q.2.2.2 - p.1) % 2 = 1))
theorem rows_apart' : ∀ q ∈ foldL, ∀ p ∈ foldL, apartOk q p = true := by decide +kernel
theorem fold_fold (r : Int) : foldZ (foldZ r) = foldZ r := by
  rcases fold_cases r with ⟨h, _⟩ | ⟨q, hq, hf, h⟩
  · rw [h, h]
  · rw [h]
    rcases fold_cases (r + q.2.2.2) with ⟨h', _⟩ | ⟨p, hp, hg, _⟩
    · exact h'
    · exfalso
      obtain ⟨f1, f2, f3⟩ := fit_iff.1 hf
      obtain ⟨g1, g2, g3⟩ := fit_iff.1 hg
      have hk := rows_apart' q hq p hp
      unfold apartOk at hk
      simp only [Bool.or_eq_true, Bool.and_eq_true, decide_eq_true_eq, beq_iff_eq] at hk
      rcases hk with ((hk | hk) | ⟨⟨hk1, hk2⟩, hk3⟩) | ⟨⟨hk1, hk2⟩, hk3⟩
      · omega
      · omega
      · rw [hk1] at g3; rw [hk2] at f3; omega
      · rw [hk2] at g3; omega

theorem blank_word (r : Int) : blankB r = true → wordB r = false := by
  intro h
  obtain ⟨p, hp, h1, h2⟩ := inR_iff.1 h
  have : ∀ p ∈ blankL, clear' wordL p.1 p.2 = true := by decide +kernel
  exact clear_out (this p hp) h1 h2
theorem ends_blank (r : Int) : endsB r = true → blankB r = true ∧ widthN r = 0 := by
  intro h
  have : r = 0xa ∨ r = 0xd ∨ r = 0x85 ∨ r = 0x2028 ∨ r = 0x2029 := by
    obtain ⟨p, hp, h1, h2⟩ := inR_iff.1 h
    simp at hp
    rcases hp with rfl | rfl | rfl | rfl <;> simp at h1 h2 <;> omega
  rcases this with rfl | rfl | rfl | rfl | rfl <;> decide +kernel
end Go.Proofs.YtkknmbkfiiidmaaDoor
