/-
  The contracts of the program's follows, wide, First and Count: a text's first character, and how many there are.
-/
import Derived.Test.YtkknmbkfiiidmaaDoorKit
import Derived.Test.YtkknmbkfiiidmaaDoorUtfFn
import Derived.Test.YtkknmbkfiiidmaaDoorShelf
import Derived.Lib.OthersKept
namespace Go.Proofs.YtkknmbkfiiidmaaDoor
open Go.RowKit

/-- The library's two tables, as they are laid. -/
def Tabs (w : World) : Prop := Lib.Utf8Tabs 0 1 w
theorem Tabs.below {w w' : World} (h : Tabs w) {B : Nat} (hb : Below B w w') (hB : w.heap.size ≤ B) : Tabs w' := by
  refine ⟨fun c hc => ?_, fun i hi => ⟨?_, ?_⟩⟩
  · have := h.1 c hc
    exact (hb.cell (p := ⟨_, c, none⟩) (by have := World.block_lt_of_cell? w _ this; omega)).trans this
  · have := (h.2 i hi).1
    exact (hb.cell (p := ⟨_, 2 * i, none⟩) (by have := World.block_lt_of_cell? w _ this; omega)).trans this
  · have := (h.2 i hi).2
    exact (hb.cell (p := ⟨_, 2 * i + 1, none⟩) (by have := World.block_lt_of_cell? w _ this; omega)).trans this

/-- does a byte follow? -/
def folB (b : Nat) : Bool := decide (Fol b)
theorem folB_t {b : Nat} (h : Fol b) : folB b = true := decide_eq_true h
theorem folB_f {b : Nat} (h : ¬ Fol b) : folB b = false := decide_eq_false h
theorem and_192 : ∀ b : Fin 256, (bits .and .u8 ((b.val : Nat) : Int) 192 == 128) = decide (128 ≤ b.val ∧ b.val < 192) := by decide +kernel
theorem and_fol (b : Nat) (h : b < 256) : (bits .and .u8 (b : Int) 192 == 128) = folB b := and_192 ⟨b, h⟩

set_option maxHeartbeats 400000 in
theorem follows_any (b : Nat) (hb : b < 256) (w : World) :
    Calls Tryd.prog 48 #[.int .u8 b] w fun e w' => e = .returned (.bool (folB b)) ∧ w = w' := by
  go_enter Tryd.func48, Tryd.ntmps48
  go_wp2
  go_ret
  exact ⟨ret_bool (and_fol b hb), rfl⟩

abbrev bs (s : ByteArray) : Bs := s.data.toList
theorem size_bs (s : ByteArray) : s.size = (bs s).length := Lib.size_eq s
theorem bs_ne {s : ByteArray} (h : s.size ≠ 0) : bs s ≠ [] := by intro e; rw [size_bs, e] at h; simp at h
theorem get_bs (s : ByteArray) (i : Nat) (h : i < s.size) : (s[i]'h).toNat = by' (bs s) i := by
  have e : (bs s)[i]? = some (s[i]'h) := by
    rw [List.getElem?_eq_getElem (by rw [← size_bs]; exact h)]
    rfl
  unfold by'
  rw [List.getD, e]
  rfl
theorem bs_extract (s : ByteArray) (a b : Nat) : bs (s.extract a b) = ((bs s).drop a).take (b - a) := Lib.extract_data s a b
theorem bs_drop (s : ByteArray) (a : Nat) : bs (s.extract a s.size) = (bs s).drop a := by
  rw [bs_extract, List.take_of_length_le (by simp)]
theorem decode_bs (s : ByteArray) (p : Nat) : Utf8.decode s p = Lib.decodeL ((bs s).drop p) := (Lib.decodeL_drop s p).symm

theorem runeLen_dec (l : Bs) (h : (Lib.decodeL l).1 ≠ 65533) : Lib.runeLen ((Lib.decodeL l).1 : Int) = ((Lib.decodeL l).2 : Int) := by
  have hb := by_lt l 0
  rcases dec_cases l with ⟨a, h0⟩ | ⟨a, h0⟩ | ⟨a, h0⟩ | ⟨a, h0⟩ | ⟨_, _, _, _, h0⟩ <;> rw [h0] at h ⊢ <;> simp only [Lib.runeLen]
  · repeat' split
    all_goals first | rfl | omega
  · obtain ⟨_, _, _, _, _⟩ := a
    unfold n2
    repeat' split
    all_goals first | rfl | omega
  · obtain ⟨_, _, _, _, _, _, _, _, _⟩ := a
    repeat' split
    all_goals first | rfl | (unfold n3 at *; omega)
  · obtain ⟨_, _, _, _, _, _, _, _, _, _, _⟩ := a
    repeat' split
    all_goals first | rfl | omega
  · exact absurd rfl h

/-- Is a first character right? -/
def rightR (r : Int) (n : Nat) : Bool := !(r == 65533 && n == 1)
theorem rightR_ne {r : Int} (h : r ≠ 65533) (n : Nat) : rightR r n = true := by simp [rightR, h]
theorem rightR_err (n : Nat) (h : 1 ≤ n) : rightR 65533 n = decide ((1 : Int) < (n : Int)) := by
  unfold rightR
  by_cases e : n = 1
  · subst e; rfl
  · have : (1 : Int) < (n : Int) := by omega
    simp [e, this]

theorem decode_any (s : ByteArray) (w : World) (hT : Tabs w) :
    Calls Tryd.prog 65 #[.string s] w fun e w' => e = .returned (.tuple #[.int .i32 (Lib.decodeGo s).1, .int .i64 (Lib.decodeGo s).2]) ∧ Below w.heap.size w w' := Tryd.utf8_DecodeRuneInString s w hT
theorem runeLen_any (r : Int) (w : World) :
    Calls Tryd.prog 64 #[.int .i32 r] w fun e w' => e = .returned (.int .i64 (Lib.runeLen r)) ∧ w = w' := (Tryd.utf8_RuneLen r w).mono fun _ _ ⟨h, k⟩ => ⟨h, k.symm⟩

set_option maxHeartbeats 400000 in
theorem wide_any (s : ByteArray) (r : Int) (n : Nat) (hs : s.size ≠ 0) (hr : ((Lib.decodeL (bs s)).1 : Int) = r) (hn : (Lib.decodeL (bs s)).2 = n) (w : World) (hT : Tabs w) :
    Calls Tryd.prog 58 #[.string s, .int .i32 r] w fun e w' => e = .returned (.int .i64 n) ∧ Below w.heap.size w w' := by
  by_cases h : r = 65533
  · have hd : (r != 65533) = false := by simp [h]
    have hg : Lib.decodeGo s = Lib.decodeL (bs s) := by unfold Lib.decodeGo; rw [if_neg hs, decode_bs, List.drop_zero]
    have hg2 : ((Lib.decodeGo s).2 : Int) = n := by rw [hg, hn]
    have HG := Lib.hid hg2
    clear hg hg2 hr hn h
    go_enter Tryd.func58, Tryd.ntmps58
    go_wp2_with (go_at_call 65; (with_reducible refine (decode_any s w hT).mono ?_); rintro e w' ⟨rfl, hb⟩)
    go_ret
    rw [HG.out]
    exact ⟨rfl, hb⟩
  · have hd : (r != 65533) = true := by simp [h]
    have hr2 := runeLen_dec (bs s) (by omega)
    rw [hr, hn] at hr2
    have HR := Lib.hid hr2
    clear hr2 hr hn h
    go_enter Tryd.func58, Tryd.ntmps58
    go_wp2_with (go_at_call 64; (with_reducible refine (runeLen_any _ _).mono ?_); rintro e w' ⟨rfl, rfl⟩)
    go_ret
    rw [HR.out]
    exact ⟨rfl, Below.refl _ _⟩

theorem below_iter (w : World) (s : ByteArray) (p : Nat) : Below w.heap.size w (w.iter s p) := (Below.refl _ w).alloc (Nat.le_refl _) _
theorem size_iter (w : World) (s : ByteArray) (p : Nat) : (w.iter s p).heap.size = w.heap.size + 1 := by simp [World.iter]

set_option maxHeartbeats 400000 in
theorem first_empty (s : ByteArray) (hs : s.size = 0) (w : World) :
    Calls Tryd.prog 49 #[.string s] w fun e w' => e = .returned (.tuple #[.int .i32 0, .int .i64 0, .bool false]) ∧ Below w.heap.size w w' := by
  have hn : ¬ 0 < s.size := by omega
  have hnx := fun ty => run_next_end (P := Tryd.prog) w s 0 ty hn
  have HS := Lib.hid hs
  clear hs
  go_enter Tryd.func49, Tryd.ntmps49
  go_wp2
  refine wp_loop_rounds 1 ?_
  rw [rounds_succ]
  go_wp2
  go_ret3
  exact ⟨rfl, below_iter _ _ _⟩

set_option maxHeartbeats 400000 in
theorem first_some (s : ByteArray) (r : Int) (n : Nat) (hs : s.size ≠ 0) (hr : ((Lib.decodeL (bs s)).1 : Int) = r) (hn : (Lib.decodeL (bs s)).2 = n) (w : World) (hT : Tabs w) :
    Calls Tryd.prog 49 #[.string s] w fun e w' => e = .returned (.tuple #[.int .i32 r, .int .i64 n, .bool (rightR r n)]) ∧ Below w.heap.size w w' := by
  have hnx := fun ty => run_next_any (P := Tryd.prog) w s 0 ty (by omega)
  rw [decode_bs, List.drop_zero, hr, hn, Nat.zero_add] at hnx
  have hn1 := (wid_bounds (bs s)).1
  rw [hn] at hn1
  have HW := Lib.hid fun p => wide_any s r n hs hr hn (w.iter s p) (hT.below (below_iter w s p) (Nat.le_refl _))
  have hp : 0 < s.size := by omega
  clear hr hn hT hs
  by_cases h : r = 65533
  · subst h
    have HD := Lib.hid (rightR_err n hn1)
    go_enter Tryd.func49, Tryd.ntmps49
    go_wp2
    refine wp_loop_rounds 1 ?_
    rw [rounds_succ]
    go_wp2_with (go_at_call 58; (with_reducible refine (HW.out _).mono ?_); rintro e w' ⟨rfl, hb⟩)
    go_ret3
    rw [HD.out]
    exact ⟨rfl, (below_iter w s n).trans (hb.mono (by rw [size_iter]; omega))⟩
  · have hd : (r != 65533) = true := by simp [h]
    have HD := Lib.hid (rightR_ne h n)
    clear h
    go_enter Tryd.func49, Tryd.ntmps49
    go_wp2
    refine wp_loop_rounds 1 ?_
    rw [rounds_succ]
    go_wp2_with (go_at_call 58; (with_reducible refine (HW.out _).mono ?_); rintro e w' ⟨rfl, hb⟩)
    go_ret3
    rw [HD.out]
    exact ⟨rfl, (below_iter w s n).trans (hb.mono (by rw [size_iter]; omega))⟩

/-! ### Count -/
set_option maxHeartbeats 400000 in
theorem count_any (s : ByteArray) (hs : s.size ≤ 140737488351232) (w : World) :
    Calls Tryd.prog 36 #[.string s] w fun e w' => e = .returned (.int .i64 (countN (bs s))) ∧ Below w.heap.size w w' := by
  go_enter Tryd.func36, Tryd.ntmps36
  go_wp2
  go_loopw [3] (fun n wr => ∃ done p, Cut (bs s) done p ∧ n = .int .i64 (done.length : Nat) ∧ wr = w.iter s p) (fun _ wr => s.size - wr.iterPos w.heap.size)
  case atStart => exact ⟨[], 0, Cut.zero _, rfl, rfl⟩
  case round =>
    obtain ⟨done, p, hc, rfl, rfl⟩ := hrel
    have hle := hc.len_le
    have hpl := hc.1
    rw [← size_bs] at hpl
    by_cases hp : p < s.size
    · have hnx := fun ty => run_next_any (P := Tryd.prog) w s p ty hp
      rw [decode_bs] at hnx
      have hst := hc.step (by rw [← size_bs]; exact hp)
      have hw := (wid_bounds ((bs s).drop p)).1
      obtain ⟨d, hd⟩ : ∃ d, d = Lib.decodeL ((bs s).drop p) := ⟨_, rfl⟩
      rw [← hd] at hnx hst hw
      clear hd hc
      go_wp2
      go_roundw
      case rel => exact ⟨_, _, hst, by simp, rfl⟩
      case measure => simp; omega
    · have hnx := fun ty => run_next_end (P := Tryd.prog) w s p ty hp
      have he := Lib.hid (hc.end' (by rw [← size_bs]; exact hp))
      clear hc
      go_wp2
      go_ret
      rw [he.out.1]
      exact ⟨rfl, below_iter _ _ _⟩
end Go.Proofs.YtkknmbkfiiidmaaDoor
