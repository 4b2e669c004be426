/-
  Columns go on over a seam: plain facts (no program in sight).
-/
import Derived.Test.YtkknmbkfiiidmaaDoorColLaw
import Derived.Test.YtkknmbkfiiidmaaDoorJoin
namespace Go.Proofs.YtkknmbkfiiidmaaDoor
open Go.RowKit

/-- The columns behind a row of runes. -/
def colR (T f n : Nat) (rs : List Int) : Nat := rs.foldl (colStep T f) n
theorem colTo_R (l : Bs) (T f : Nat) : ∀ k, k ≤ countN l → colTo l T f k = colR T f 0 ((runesZ l).take k)
  | 0, _ => by simp [colTo, colR]
  | k + 1, h => by
    rw [runesZ_snoc l k h]
    unfold colR
    rw [List.foldl_append]
    show colStep T f (colTo l T f k) _ = _
    rw [colTo_R l T f k (by omega)]
    rfl
theorem colsV_R (l : Bs) (f t : Int) : colsV l f t = colR (tabN t) (fromN f t) 0 (runesZ l) := by
  unfold colsV
  rw [colTo_R l _ _ _ (Nat.le_refl _), ← runesZ_len, List.take_length]
theorem colStep_shift (T f n m : Nat) (r : Int) : colStep T f (n + m) r = n + colStep T ((f + n) % T) m r := by
  unfold colStep
  split
  · rw [Nat.mod_add_mod, Nat.add_assoc f n m]
    omega
  · omega
theorem colR_shift (T f n : Nat) (rs : List Int) : ∀ m, colR T f (n + m) rs = n + colR T ((f + n) % T) m rs := by
  induction rs with
  | nil => intro m; rfl
  | cons r rs ih =>
    intro m
    show colR T f (colStep T f (n + m) r) rs = n + colR T ((f + n) % T) (colStep T ((f + n) % T) m r) rs
    rw [colStep_shift, ih]
theorem from_add (f t : Int) (p : Nat) : fromN (max f 0 + (p : Nat)) t = (fromN f t + p) % tabN t := by
  unfold fromN
  rw [Nat.mod_add_mod]
  congr 1
  omega
/-- The columns of two texts whose seam is open. -/
theorem cols_seam {a b : Bs} (h : closK a b = 0) (f t : Int) : colsV (a ++ b) f t = colsV a f t + colsV b (max f 0 + (colsV a f t : Nat)) t := by
  have e : colsV (a ++ b) f t = colR (tabN t) (fromN f t) (colsV a f t) (runesZ b) := by
    rw [colsV_R, open_runes h]
    unfold colR
    rw [List.foldl_append, colsV_R]
    rfl
  rw [e, colsV_R b, from_add]
  have := colR_shift (tabN t) (fromN f t) (colsV a f t) (runesZ b) 0
  rw [Nat.add_zero] at this
  exact this
/-- A tab ends at a multiple. -/
theorem cols_tab (x : Nat) (t : Int) : (x + colsV [9] (x : Nat) t) % tabN t = 0 := by
  have h1 := (tabN_bounds t).1
  have e : runesZ [9] = [9] := by decide +kernel
  rw [colsV_R, e]
  have hf : fromN ((x : Nat) : Int) t = x % tabN t := by unfold fromN; congr 1; omega
  show (x + colStep (tabN t) (fromN ((x : Nat) : Int) t) 0 9) % tabN t = 0
  unfold colStep
  rw [if_pos rfl, hf, Nat.add_zero, Nat.mod_mod, Nat.zero_add]
  have h2 := Nat.mod_lt x (show 0 < tabN t by omega)
  have h3 := Nat.div_add_mod x (tabN t)
  have h4 : x + (tabN t - x % tabN t) = tabN t * (x / tabN t + 1) := by rw [Nat.mul_add, Nat.mul_one]; omega
  rw [h4, Nat.mul_mod_right]
/-- the widths of the first k runes, and whether none of them is a tab -/
def widTo (l : Bs) : Nat → Nat
  | 0 => 0
  | k + 1 => widTo l k + widthN (((tk l)[k]?.getD (0, 0)).1 : Nat)
def plainTo (l : Bs) : Nat → Bool
  | 0 => true
  | k + 1 => plainTo l k && !((((tk l)[k]?.getD (0, 0)).1 : Nat) == (9 : Nat))
theorem plain_cols (l : Bs) (T f k : Nat) (h : plainTo l k = true) : colTo l T f k = widTo l k := by
  induction k with
  | zero => rfl
  | succ k ih =>
    simp only [plainTo, Bool.and_eq_true, Bool.not_eq_true', beq_eq_false_iff_ne] at h
    simp only [colTo, widTo]
    rw [ih h.1]
    unfold colStep
    rw [if_neg (by have := h.2; omega)]
theorem widTo_le (l : Bs) (k : Nat) : widTo l k ≤ 2 * k := by
  induction k with
  | zero => simp [widTo]
  | succ k ih =>
    have := width_le (((tk l)[k]?.getD (0, 0)).1 : Nat)
    simp only [widTo]
    omega
end Go.Proofs.YtkknmbkfiiidmaaDoor
