/-
  Plain facts on what is pending at a text's end, and what closes it; and the contracts of Pending and Closes.
-/
import Derived.Test.YtkknmbkfiiidmaaDoorPend
namespace Go.Proofs.YtkknmbkfiiidmaaDoor
open Go.RowKit

theorem firstT_fol {b : Nat} (h : Fol b) : Lib.firstT b = 241 := by
  obtain ⟨h1, h2⟩ := h
  unfold Lib.firstT
  rw [if_neg (by omega), if_pos (by omega)]

theorem full_fol {l : Bs} (hl : 1 ≤ l.length) (h : Fol (by' l 0)) : fullB l = true := by
  unfold fullB fullN
  rw [firstT_fol h]
  simp only [Bool.or_eq_true, decide_eq_true_eq]
  left; left; omega

/-- a proper beginning -/
def properB (l : Bs) : Bool := !fullB l && decide (1 ≤ l.length) && decide (l.length ≤ 3)

theorem acc_ge (x : Nat) : x = 2 ∨ x = 19 ∨ x = 3 ∨ x = 35 ∨ x = 52 ∨ x = 4 ∨ x = 68 → 128 ≤ Lib.accLo (x / 16) ∧ Lib.accHi (x / 16) ≤ 191 := by
  rintro (rfl | rfl | rfl | rfl | rfl | rfl | rfl) <;> decide

/-- What is not full: its lead byte's class, and that the others follow. -/
theorem not_full {l : Bs} (hl : 1 ≤ l.length) (h : fullB l = false) : ¬ Fol (by' l 0) ∧ 194 ≤ by' l 0 ∧ by' l 0 < 245 ∧ (∀ i, 1 ≤ i → i < l.length → i ≤ 2 → Fol (by' l i)) ∧ l.length ≤ 3 := by
  have hnf : ¬ Fol (by' l 0) := fun hf => by rw [full_fol hl hf] at h; cases h
  unfold fullB fullN at h
  simp only [Bool.or_eq_false_iff, Bool.and_eq_false_iff, decide_eq_false_iff_not] at h
  obtain ⟨⟨h1, h2⟩, h3⟩ := h
  have hb := by_lt l 0
  have hx : Lib.firstT (by' l 0) = 2 ∨ Lib.firstT (by' l 0) = 19 ∨ Lib.firstT (by' l 0) = 3 ∨ Lib.firstT (by' l 0) = 35 ∨ Lib.firstT (by' l 0) = 52 ∨ Lib.firstT (by' l 0) = 4 ∨ Lib.firstT (by' l 0) = 68 := by
    rcases Lib.firstT_cases (by' l 0) with e | e | e
    · rw [e] at h1; omega
    · rw [e] at h1; omega
    · exact e
  have ha := acc_ge _ hx
  have hlow := Lib.firstT_low (b := by' l 0) (by omega)
  refine ⟨hnf, by omega, by omega, fun i hi1 hi2 hi3 => ?_, by omega⟩
  obtain rfl | rfl : i = 1 ∨ i = 2 := by omega
  · exact ⟨by omega, by omega⟩
  · exact ⟨by omega, by omega⟩

theorem proper_of {l : Bs} (hl : 1 ≤ l.length) (h : fullB l = false) : properB l = true := by
  have := (not_full hl h).2.2.2.2
  simp [properB, h, hl, this]
theorem proper_full {l : Bs} (h : properB l = true) : fullB l = false ∧ 1 ≤ l.length ∧ l.length ≤ 3 := by
  simp [properB] at h
  exact ⟨h.1.1, h.1.2, h.2⟩
theorem not_proper {l : Bs} (h : fullB l = true) : properB l = false := by simp [properB, h]

/-- How many of the last bytes are a proper beginning. -/
def tailOf (l : Bs) (k : Nat) : Bs := l.drop (l.length - k)
def pendN (l : Bs) : Nat :=
  if 1 ≤ l.length ∧ properB (tailOf l 1) = true then 1 else if 2 ≤ l.length ∧ properB (tailOf l 2) = true then 2 else if 3 ≤ l.length ∧ properB (tailOf l 3) = true then 3 else 0

theorem tail_len {l : Bs} {k : Nat} (h : k ≤ l.length) : (tailOf l k).length = k := by unfold tailOf; simp; omega
theorem tail_by {l : Bs} {k : Nat} (h : k ≤ l.length) (i : Nat) (hi : i < k) : by' (tailOf l k) i = by' l (l.length - (k - i)) := by
  unfold tailOf
  rw [by_drop, show l.length - k + i = l.length - (k - i) from by omega]

/-- a tail that begins with a byte that follows is no proper beginning; nor one with another byte that does not -/
theorem tail_not {l : Bs} {k : Nat} (h1 : 1 ≤ k) (h : k ≤ l.length) (hf : Fol (by' l (l.length - k))) : properB (tailOf l k) = false := by
  refine not_proper (full_fol (by rw [tail_len h]; exact h1) ?_)
  rw [tail_by h 0 (by omega), Nat.sub_zero]
  exact hf
theorem tail_inner {l : Bs} {k j : Nat} (h : k ≤ l.length) (hk : k ≤ 3) (hj : 1 ≤ j) (hjk : j < k) (hf : ¬ Fol (by' l (l.length - j))) : properB (tailOf l k) = false := by
  refine Bool.eq_false_iff.2 fun hp => hf ?_
  have h1 := proper_full hp
  have h2 := (not_full h1.2.1 h1.1).2.2.2.1 (k - j) (by omega) (by rw [tail_len h]; omega) (by omega)
  rw [tail_by h _ (by omega), show k - (k - j) = j from by omega] at h2
  exact h2

theorem pend_back {l : Bs} {k : Nat} (hk : 1 ≤ k) (hk3 : k ≤ 3) (hkl : k ≤ l.length) (hf : ∀ j, 1 ≤ j → j < k → Fol (by' l (l.length - j))) (hn : ¬ Fol (by' l (l.length - k))) :
    pendN l = if fullB (tailOf l k) = true then 0 else k := by
  have hlow : ∀ j, 1 ≤ j → j < k → properB (tailOf l j) = false := fun j h1 h2 => tail_not h1 (by omega) (hf j h1 h2)
  have hhigh : ∀ j, k < j → j ≤ 3 → j ≤ l.length → properB (tailOf l j) = false := fun j h1 h2 h3 => tail_inner h3 h2 hk h1 hn
  have hself : properB (tailOf l k) = !fullB (tailOf l k) := by
    cases hfb : fullB (tailOf l k)
    · exact proper_of (by rw [tail_len hkl]; exact hk) hfb
    · exact not_proper hfb
  unfold pendN
  obtain rfl | rfl | rfl : k = 1 ∨ k = 2 ∨ k = 3 := by omega
  · rw [hself]
    cases hfb : fullB (tailOf l 1)
    · simp [hkl]
    · simp only [Bool.not_true, Bool.false_eq_true, and_false, if_false, if_true]
      by_cases h2 : 2 ≤ l.length
      · rw [hhigh 2 (by omega) (by omega) h2]
        by_cases h3 : 3 ≤ l.length
        · rw [hhigh 3 (by omega) (by omega) h3]; simp
        · simp [h3]
      · simp [h2, show ¬ 3 ≤ l.length by omega]
  · rw [hlow 1 (by omega) (by omega), hself]
    cases hfb : fullB (tailOf l 2)
    · simp [hkl]
    · simp only [Bool.not_true, Bool.false_eq_true, and_false, if_false, if_true]
      by_cases h3 : 3 ≤ l.length
      · rw [hhigh 3 (by omega) (by omega) h3]; simp
      · simp [h3]
  · rw [hlow 1 (by omega) (by omega), hlow 2 (by omega) (by omega), hself]
    cases hfb : fullB (tailOf l 3)
    · simp [hkl]
    · simp

theorem pend_far {l : Bs} (hf : ∀ j, 1 ≤ j → j ≤ 3 → j ≤ l.length → Fol (by' l (l.length - j))) : pendN l = 0 := by
  unfold pendN
  by_cases h1 : 1 ≤ l.length
  · rw [tail_not (k := 1) (by omega) h1 (hf 1 (by omega) (by omega) h1)]
    by_cases h2 : 2 ≤ l.length
    · rw [tail_not (k := 2) (by omega) h2 (hf 2 (by omega) (by omega) h2)]
      by_cases h3 : 3 ≤ l.length
      · rw [tail_not (k := 3) (by omega) h3 (hf 3 (by omega) (by omega) h3)]; simp
      · simp [h3]
    · simp [h2, show ¬ 3 ≤ l.length by omega]
  · simp [h1, show ¬ 2 ≤ l.length by omega, show ¬ 3 ≤ l.length by omega]

theorem pend_le (l : Bs) : pendN l ≤ 3 ∧ pendN l ≤ l.length := by
  unfold pendN
  split
  · omega
  · split
    · omega
    · split <;> omega

set_option maxHeartbeats 1000000 in
theorem pending_any (s : ByteArray) (hs : s.size ≤ 140737488351232) (w : World) (hT : Tabs w) :
    Calls Tryd.prog 33 #[.string s] w fun e w' => e = .returned (.int .i64 (pendN (bs s))) ∧ Below w.heap.size w w' := by
  have HT := Lib.hid hT
  clear hT
  go_enter Tryd.func33, Tryd.ntmps33
  go_wp2
  go_loop [3] (fun i => ∃ k : Nat, 1 ≤ k ∧ k ≤ 4 ∧ k ≤ s.size + 1 ∧ i = .int .i64 k ∧ Hid (∀ j, 1 ≤ j → j < k → Fol (by' (bs s) (s.size - j)))) (fun i => 4 - (intOf i).toNat)
  case atStart => exact ⟨1, by omega, by omega, by omega, rfl, (show Hid _ from fun j h1 h2 => absurd h2 (by omega))⟩
  case round =>
    obtain ⟨k, hk1, hk4, hkn, rfl, hf⟩ := hrel
    by_cases hin : k ≤ 3 ∧ k ≤ s.size
    · obtain ⟨h3, hks⟩ := hin
      have hsub : s.size - k < s.size := by omega
      have hE : (s.extract (s.size - k) s.size).size ≠ 0 := by rw [size_bs, bs_drop]; simp; omega
      have hEp : 0 < (s.extract (s.size - k) s.size).size := by omega
      have hEs : (s.extract (s.size - k) s.size).size ≤ 140737488351232 := by rw [size_bs, bs_drop]; simp; omega
      have hg := get_bs (s.extract (s.size - k) s.size) 0 hEp
      rw [bs_drop, by_drop, Nat.add_zero] at hg
      by_cases hF : Fol (by' (bs s) (s.size - k))
      · have hft := folB_t hF
        have HF := Lib.hid hF
        clear hF hE hEs
        go_wp2_with (go_at_call 48; (with_reducible refine (follows_any _ (by_lt _ _) _).mono ?_); rintro e w' ⟨rfl, rfl⟩)
        go_round
        case rel =>
          refine ⟨k + 1, by omega, by omega, by omega, by go_num, (show Hid _ from fun j h1 h2 => ?_)⟩
          by_cases e : j = k
          · subst e; exact HF.out
          · exact hf.out j h1 (by omega)
        case measure => simp [intOf]; omega
      · have hft := folB_f hF
        have hback := pend_back (l := bs s) hk1 h3 (by rw [← size_bs]; exact hks) (by rw [← size_bs]; exact hf.out) (by rw [← size_bs]; exact hF)
        have hFu := fun w (hT : Tabs w) => full_any (s.extract (s.size - k) s.size) hEs hE w hT
        unfold tailOf at hback
        rw [← size_bs] at hback
        rw [bs_drop] at hFu
        have HFu := Lib.hid hFu
        clear hFu hF hE hEs
        cases hfb : fullB ((bs s).drop (s.size - k))
        · rw [hfb] at hback
          simp only [Bool.false_eq_true, if_false] at hback
          have HB := Lib.hid hback
          clear hback
          go_wp2_with (first | (go_at_call 48; (with_reducible refine (follows_any _ (by_lt _ _) _).mono ?_); rintro e w' ⟨rfl, rfl⟩) | (go_at_call 50; (with_reducible refine (HFu.out _ HT.out).mono ?_); rintro e w' ⟨rfl, hb⟩))
          go_ret
          rw [HB.out]
          exact ⟨rfl, hb⟩
        · rw [hfb] at hback
          simp only [if_true] at hback
          have HB := Lib.hid hback
          clear hback
          go_wp2_with (first | (go_at_call 48; (with_reducible refine (follows_any _ (by_lt _ _) _).mono ?_); rintro e w' ⟨rfl, rfl⟩) | (go_at_call 50; (with_reducible refine (HFu.out _ HT.out).mono ?_); rintro e w' ⟨rfl, hb⟩))
          go_ret
          rw [HB.out]
          exact ⟨rfl, hb⟩
    · have HB := Lib.hid (pend_far (l := bs s) (fun j h1 h2 h3 => by rw [← size_bs] at h3 ⊢; exact hf.out j h1 (by omega)))
      by_cases h4 : k ≤ 3
      · have hks : ¬ k ≤ s.size := by omega
        clear hin
        go_wp2
        go_ret
        rw [HB.out]
        exact ⟨rfl, Below.refl _ _⟩
      · clear hin
        go_wp2
        go_ret
        rw [HB.out]
        exact ⟨rfl, Below.refl _ _⟩
end Go.Proofs.YtkknmbkfiiidmaaDoor
