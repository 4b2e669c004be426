/-
  The plain law of CursorsFollow: a place behind an edit, and the texts ahead of it and behind it.
-/
import Derived.Test.YtfoppbignompkaaDoorCurCheck
namespace Go.Proofs.YtfoppbignompkaaDoor
open Go.RowKit

/-- a place behind an edit -/
def qN (p A O I : Nat) : Nat := if p < A then p else if A + O < p then p - O + I else A + I
theorem qN_1 {p A O I : Nat} (h : p < A) : qN p A O I = p := if_pos h
theorem qN_2 {p A O I : Nat} (h : A + O < p) : qN p A O I = p - O + I := by unfold qN; rw [if_neg (by omega), if_pos h]
theorem qN_3 {p A O I : Nat} (h : A ≤ p) (h2 : p ≤ A + O) : qN p A O I = A + I := by unfold qN; rw [if_neg (by omega), if_neg (by omega)]
theorem qN_le {p A O I n : Nat} (hA : A + O ≤ n) (hp : p ≤ n) : qN p A O I ≤ n - O + I := by
  unfold qN
  split
  · omega
  · split <;> omega
theorem goesV_q (p A O I : Nat) (h : p + I ≤ 9223372036854775807) : goesV (p : Nat) (A : Nat) (O : Nat) (I : Nat) = (((qN p A O I : Nat) : Int), true) := by
  rcases Nat.lt_or_ge p A with h1 | h1
  · rw [goesV_1 (by omega), qN_1 h1]
  · rcases Nat.lt_or_ge (A + O) p with h2 | h2
    · rw [goesV_2 (by omega) (by omega), qN_2 h2]
      have e : wrap64 ((p : Int) - (O : Int) + (I : Int)) = ((p - O + I : Nat) : Int) := by
        rw [show ((p - O + I : Nat) : Int) = (p : Int) - (O : Int) + (I : Int) by omega]
        unfold wrap64
        omega
      rw [e, decide_eq_true (by omega)]
    · rw [goesV_3 (by omega) (by omega), qN_3 h1 h2]
      rw [show ((A + I : Nat) : Int) = (A : Int) + (I : Int) by omega]
theorem bs_same {a b : ByteArray} (h : bs a = bs b) : a = b := by
  cases a with
  | mk x => cases b with
    | mk y => exact congrArg ByteArray.mk (Array.toList_inj.1 h)
/-- the text behind the edit -/
def nowS (t i : ByteArray) (A O : Nat) : ByteArray := t.extract 0 A ++ i ++ t.extract (A + O) t.size
theorem bs_now (t i : ByteArray) (A O : Nat) : bs (nowS t i A O) = (bs t).take A ++ bs i ++ (bs t).drop (A + O) := by
  unfold nowS
  rw [bs_append, bs_append, bs_take, bs_drop]
theorem now_size (t i : ByteArray) (A O : Nat) (h : A + O ≤ t.size) : (nowS t i A O).size = t.size - O + i.size := by
  rw [size_bs] at h
  rw [size_bs (nowS t i A O), bs_now, List.length_append, List.length_append, List.length_take, List.length_drop, size_bs i, size_bs t, Nat.min_eq_left (by omega)]
  omega
theorem now_ahead (t i : ByteArray) (A O p : Nat) (h : A + O ≤ t.size) (hp : p < A) : (nowS t i A O).extract 0 p = t.extract 0 p := by
  rw [size_bs] at h
  refine bs_same ?_
  rw [bs_take, bs_take, bs_now, List.append_assoc, List.take_append_of_le_length (by rw [List.length_take]; omega), List.take_take, Nat.min_eq_left (by omega)]
theorem now_behind (t i : ByteArray) (A O p : Nat) (h : A + O ≤ t.size) (hp : A + O < p) (_hq : p ≤ t.size) : (nowS t i A O).extract (p - O + i.size) (nowS t i A O).size = t.extract p t.size := by
  rw [size_bs] at h
  refine bs_same ?_
  rw [bs_drop, bs_drop, bs_now]
  have e : p - O + i.size = ((bs t).take A ++ bs i).length + (p - O - A) := by rw [List.length_append, List.length_take, size_bs i]; omega
  have h2 : ((bs t).take A ++ bs i).length = A + (bs i).length := by rw [List.length_append, List.length_take, Nat.min_eq_left (by omega)]
  have h3 : i.size = (bs i).length := size_bs i
  rw [e, ← List.drop_drop, List.drop_left, List.drop_drop]
  congr 1
  omega
end Go.Proofs.YtfoppbignompkaaDoor
