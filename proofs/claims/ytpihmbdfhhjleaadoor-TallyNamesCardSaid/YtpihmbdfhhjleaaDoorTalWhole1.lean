/-
  The plain law of pieces: their tallies add up. And the law's own places.
-/
import Derived.Test.YtpihmbdfhhjleaaDoorTalParts
namespace Go.Proofs.YtpihmbdfhhjleaaDoor
open Go.RowKit

theorem recOf_nil : recOf [] = zeroR := rfl
theorem recOf_ok (l : Bs) : (recOf l).ok = true := (recOf_is l).ok

theorem joinF_of (a b : Bs) (h : a.length + b.length ≤ 1125899906842624) : joinF (recOf a) (recOf b) = (recOf (a ++ b), 0) := by
  have hl1 := countN_le a
  have hl2 := countN_le b
  have hl3 := linN_le a
  have hl4 := linN_le b
  have hs := seam_bounds a b
  have e1 : bs (recOf a).t = tl3 a := bs_sB _
  have e2 : bs (recOf b).h = hd3 b := bs_sB _
  have e3 : bs (recOf a).h = hd3 a := bs_sB _
  have e4 : bs (recOf b).t = tl3 b := bs_sB _
  have q1 : (recOf a).b + (recOf b).b = (recOf (a ++ b)).b := by show (a.length : Int) + b.length = ((a ++ b).length : Nat); rw [List.length_append]; omega
  have q2 : (recOf a).c + (recOf b).c + seamC (bs (recOf a).t) (bs (recOf b).h) = (recOf (a ++ b)).c := by
    rw [e1, e2, seamC_ends]; exact (seam_chars a b).symm
  have q3 : IntKind.i64.wrap ((recOf a).l + (recOf b).l + seamL (bs (recOf a).t) (bs (recOf b).h)) = (recOf (a ++ b)).l := by
    rw [e1, e2, seamL_ends]
    have := seam_lines a b
    show IntKind.i64.wrap ((linN a : Int) + linN b + seamL a b) = (linN (a ++ b) : Int)
    rw [← this, IntKind.wrap_i64]; omega
  have q4 : sB (hd3 (bs (recOf a).h ++ bs (recOf b).h)) = (recOf (a ++ b)).h := by rw [e3, e2, hd3_join]; rfl
  have q5 : sB (tl3 (bs (recOf a).t ++ bs (recOf b).t)) = (recOf (a ++ b)).t := by rw [e1, e4, tl3_join]; rfl
  have hbig : ¬ (9223372036854775807 - (recOf b).b < (recOf a).b) := by show ¬ (9223372036854775807 - (b.length : Int) < a.length); omega
  have hok : okB (recOf (a ++ b)).b (recOf (a ++ b)).c (recOf (a ++ b)).l (bs (recOf (a ++ b)).h) (bs (recOf (a ++ b)).t) = true := (recOf_is (a ++ b)).ok
  unfold joinF
  rw [if_neg (by rw [recOf_ok, recOf_ok]; decide), if_neg hbig, q1, q2, q3, if_pos (by
    rw [← q4, ← q5, bs_sB, bs_sB] at hok; exact hok), q4, q5]

theorem piece_next (l : Bs) (cs : List Nat) (k : Nat) (h : pf cs k ≤ cs[k]?.getD 0) : l.take (pf cs k) ++ pieceAt l cs k = l.take (pf cs (k + 1)) := by
  rw [pf_succ]
  unfold pieceAt
  have e : l.take (pf cs k) = (l.take (cs[k]?.getD 0)).take (pf cs k) := by rw [List.take_take, Nat.min_eq_left h]
  rw [e, List.take_append_drop]

theorem sum_pieces (l : Bs) (hl : l.length ≤ 1125899906842624) (cs : List Nat) (hr : Rise cs l.length) : ∀ (k : Nat), k ≤ cs.length → ∀ rest, sumGo zeroR (prl l cs k ++ rest) = sumGo (recOf (l.take (pf cs k))) rest
  | 0, _, rest => by
    have : l.take (pf cs 0) = [] := by simp [pf]
    rw [this, recOf_nil]; rfl
  | k + 1, hk, rest => by
    have hrk := hr k (by omega)
    rw [prl_succ, List.append_assoc, List.singleton_append, sum_pieces l hl cs hr k (by omega)]
    have hle : (l.take (pf cs k)).length + (pieceAt l cs k).length ≤ 1125899906842624 := by
      have := congrArg List.length (piece_next l cs k hrk.1)
      rw [List.length_append] at this
      rw [this, List.length_take]; omega
    rw [sumGo, joinF_of _ _ hle, piece_next l cs k hrk.1]
    simp
theorem sum_whole (l : Bs) (hl : l.length ≤ 1125899906842624) (cs : List Nat) (hr : Rise cs l.length) : sumGo zeroR (prl l cs cs.length ++ [recOf (l.drop (pf cs cs.length))]) = (recOf l, 0) := by
  rw [sum_pieces l hl cs hr cs.length (Nat.le_refl _)]
  have hle : (l.take (pf cs cs.length)).length + (l.drop (pf cs cs.length)).length ≤ 1125899906842624 := by
    rw [← List.length_append, List.take_append_drop]; exact hl
  rw [sumGo, joinF_of _ _ hle, List.take_append_drop]
  simp [sumGo]

/-- how many characters the pieces have -/
def sumC : List Rec → Int
  | [] => 0
  | x :: r => x.c + sumC r
theorem sumC_append (a b : List Rec) : sumC (a ++ b) = sumC a + sumC b := by
  induction a with
  | nil => simp [sumC]
  | cons x a ih => simp [sumC, ih]; omega
theorem chars_pieces (l : Bs) (cs : List Nat) (hr : Rise cs l.length) : ∀ (k : Nat), k + 1 ≤ cs.length → (countN (l.take (pf cs (k + 1))) : Int) ≤ sumC (prl l cs (k + 1)) ∧ sumC (prl l cs (k + 1)) ≤ (countN (l.take (pf cs (k + 1))) : Int) + 3 * k
  | 0, h => by
    have hrk := hr 0 (by omega)
    have e := piece_next l cs 0 hrk.1
    have e0 : l.take (pf cs 0) = [] := by simp [pf]
    rw [e0, List.nil_append] at e
    have : sumC (prl l cs (0 + 1)) = (countN (pieceAt l cs 0) : Int) := by rw [prl_succ]; simp [prl, sumC, recOf]
    rw [this, e]; omega
  | k + 1, h => by
    have hrk := hr (k + 1) (by omega)
    have ih := chars_pieces l cs hr k (by omega)
    have e := piece_next l cs (k + 1) hrk.1
    have hs := seam_chars (l.take (pf cs (k + 1))) (pieceAt l cs (k + 1))
    have hb := seam_bounds (l.take (pf cs (k + 1))) (pieceAt l cs (k + 1))
    rw [e] at hs
    have : sumC (prl l cs (k + 1 + 1)) = sumC (prl l cs (k + 1)) + (countN (pieceAt l cs (k + 1)) : Int) := by rw [prl_succ, sumC_append]; simp [sumC, recOf]
    rw [this]
    omega
theorem chars_whole (l : Bs) (cs : List Nat) (hr : Rise cs l.length) : (countN l : Int) ≤ sumC (prl l cs cs.length ++ [recOf (l.drop (pf cs cs.length))]) ∧ sumC (prl l cs cs.length ++ [recOf (l.drop (pf cs cs.length))]) ≤ (countN l : Int) + 3 * cs.length := by
  have hs := seam_chars (l.take (pf cs cs.length)) (l.drop (pf cs cs.length))
  have hb := seam_bounds (l.take (pf cs cs.length)) (l.drop (pf cs cs.length))
  rw [List.take_append_drop] at hs
  have e : sumC (prl l cs cs.length ++ [recOf (l.drop (pf cs cs.length))]) = sumC (prl l cs cs.length) + (countN (l.drop (pf cs cs.length)) : Int) := by rw [sumC_append]; simp [sumC, recOf]
  rw [e]
  cases hn : cs.length with
  | zero =>
    rw [hn] at hs hb
    have e0 : pf cs 0 = 0 := rfl
    rw [e0] at hs ⊢
    simp [prl, sumC]
  | succ m =>
    have := chars_pieces l cs hr m (by omega)
    rw [hn] at hs hb
    omega
end Go.Proofs.YtpihmbdfhhjleaaDoor
