/-
  At and Of bring each other back: plain facts, and the walk of the law UtfOrder.
-/
import Derived.Test.YtnfjohlbpbonhaaDoorAwake
namespace Go.Proofs.YtnfjohlbpbonhaaDoor
open Go.RowKit

theorem of_find (l : Bs) (q : Nat) (hq : q < l.length) : ∃ n, n < countN l ∧ ofT (tk l) q = n ∧ atN l n ≤ q ∧ q < atN l (n + 1) ∧ q - atN l n ≤ 3 ∧ (atN l n = q ↔ Border l q) := by
  obtain ⟨a, p, ha, hp, h⟩ := Cut.find l q (by omega)
  rcases h with ⟨hl, hw⟩ | ⟨h, _⟩
  · have hst := (ha.step hl).at'
    rw [List.length_append, List.length_singleton] at hst
    have h4 := (wid_bounds (l.drop p)).2
    refine ⟨a.length, ha.lt_count hl, ofT_cut ha hl hp hw, by rw [ha.at']; exact hp, by rw [hst]; exact hw, by rw [ha.at']; omega, ?_⟩
    rw [ha.at']
    constructor
    · rintro rfl; exact ⟨a, ha⟩
    · intro hb
      rcases Nat.lt_or_ge p q with h1 | h1
      · exact absurd hb (not_border_within ⟨a, ha⟩ h1 hw hl)
      · omega
  · omega

theorem atN_lt_len {l : Bs} {n : Nat} (h : n < countN l) : atN l n < l.length := by
  have hc := cut_at l n (by omega)
  rcases Nat.lt_or_ge (atN l n) l.length with h2 | h2
  · exact h2
  · have h3 := (hc.end' (by omega)).1
    have h4 := congrArg List.length h3
    simp at h4; unfold countN at h; omega

theorem of_at (l : Bs) (n : Nat) (h : n ≤ countN l) : atN l n ≤ l.length ∧ ofT (tk l) (atN l n) = n := by
  have hc := cut_at l n h
  refine ⟨hc.1, ?_⟩
  by_cases e : n = countN l
  · rw [e, atN_full, ofT_end]
  · have hlt := atN_lt_len (l := l) (n := n) (by omega)
    have := ofT_cut hc hlt (Nat.le_refl _) (by have := (wid_bounds (l.drop (atN l n))).1; omega)
    rw [this]; unfold countN at h; simp; omega

theorem c_at (s : ByteArray) (hs : s.size ≤ 140737488351232) (c : Int) (v e : Int) (h : atZ (bs s) c = (v, e)) (w : World) :
    Calls Tryd.prog 41 #[.string s, .int .i64 c] w fun r w' => r = .returned (.tuple #[.int .i64 v, .int .i64 e]) ∧ Below w.heap.size w w' := by
  have := at_any s hs c w
  rwa [h] at this
theorem c_of (s : ByteArray) (hs : s.size ≤ 140737488351232) (c : Int) (v e : Int) (h : ofZ (bs s) c = (v, e)) (w : World) :
    Calls Tryd.prog 40 #[.string s, .int .i64 c] w fun r w' => r = .returned (.tuple #[.int .i64 v, .int .i64 e]) ∧ Below w.heap.size w w' := by
  have := of_any s hs c w
  rwa [h] at this
theorem c_begins (s : ByteArray) (hs : s.size ≤ 140737488351232) (c : Int) (b : Bool) (h : begB (bs s) c = b) (w : World) (hT : Tabs w) :
    Calls Tryd.prog 33 #[.string s, .int .i64 c] w fun r w' => r = .returned (.bool b) ∧ Below w.heap.size w w' := by
  have := begins_any s hs c w hT
  rwa [h] at this
theorem c_count (s : ByteArray) (hs : s.size ≤ 140737488351232) (n : Nat) (h : countN (bs s) = n) (w : World) :
    Calls Tryd.prog 19 #[.string s] w fun r w' => r = .returned (.int .i64 n) ∧ Below w.heap.size w w' := by
  have := count_any s hs w
  rwa [h] at this

set_option maxHeartbeats 8000000 in
theorem utfOrder_any (s : ByteArray) (hs : s.size ≤ 140737488351232) (p c : Int) (w : World) (hT : Tabs w) :
    Calls Tryd.prog 12 #[.string s, .int .i64 p, .int .i64 c] w fun e w' => e = .returned (.bool true) ∧ Below w.heap.size w w' := by
  have HT := Lib.hid hT
  clear hT
  have hcl : countN (bs s) ≤ s.size := bs_len_le s
  obtain ⟨N, hN⟩ : ∃ N, N = countN (bs s) := ⟨_, rfl⟩
  have HCO := Lib.hid (c_count s hs N hN.symm)
  rw [← hN] at hcl
  have hb := Below.refl w.heap.size w
  by_cases h1 : p < 0
  · have HOF := Lib.hid (c_of s hs p 0 6 (ofZ_out (by omega)))
    have HBG := Lib.hid (c_begins s hs p false (begB_neg h1))
    by_cases h2 : c < 0
    · have HAC := Lib.hid (c_at s hs c 0 6 (atZ_out (by omega)))
      clear hN
      go_enter Tryd.func12, Tryd.ntmps12
      go_wp2_with (first | (go_at_call 30; (with_reducible refine (awake_any _ (HT.out.below hb (Nat.le_refl _))).mono ?_); rintro e w' ⟨rfl, hb'⟩; have hb := nx hb hb'; clear hb') | (go_at_call 40; (with_reducible refine (HOF.out _).mono ?_); rintro e w' ⟨rfl, hb'⟩; have hb := nx hb hb'; clear hb') | (go_at_call 33; (with_reducible refine (HBG.out _ (HT.out.below hb (Nat.le_refl _))).mono ?_); rintro e w' ⟨rfl, hb'⟩; have hb := nx hb hb'; clear hb') | (go_at_call 41; (with_reducible refine (HA1.out _).mono ?_); rintro e w' ⟨rfl, hb'⟩; have hb := nx hb hb'; clear hb') | (go_at_call 41; (with_reducible refine (HA2.out _).mono ?_); rintro e w' ⟨rfl, hb'⟩; have hb := nx hb hb'; clear hb') | (go_at_call 41; (with_reducible refine (HAC.out _).mono ?_); rintro e w' ⟨rfl, hb'⟩; have hb := nx hb hb'; clear hb') | (go_at_call 19; (with_reducible refine (HCO.out _).mono ?_); rintro e w' ⟨rfl, hb'⟩; have hb := nx hb hb'; clear hb') | (go_at_call 40; (with_reducible refine (HOC.out _).mono ?_); rintro e w' ⟨rfl, hb'⟩; have hb := nx hb hb'; clear hb'))
      go_ret
      exact ⟨rfl, hb⟩
    by_cases h3 : (N : Int) < c
    · have HAC := Lib.hid (c_at s hs c 0 6 (atZ_out (by rw [← hN]; omega)))
      clear hN
      go_enter Tryd.func12, Tryd.ntmps12
      go_wp2_with (first | (go_at_call 30; (with_reducible refine (awake_any _ (HT.out.below hb (Nat.le_refl _))).mono ?_); rintro e w' ⟨rfl, hb'⟩; have hb := nx hb hb'; clear hb') | (go_at_call 40; (with_reducible refine (HOF.out _).mono ?_); rintro e w' ⟨rfl, hb'⟩; have hb := nx hb hb'; clear hb') | (go_at_call 33; (with_reducible refine (HBG.out _ (HT.out.below hb (Nat.le_refl _))).mono ?_); rintro e w' ⟨rfl, hb'⟩; have hb := nx hb hb'; clear hb') | (go_at_call 41; (with_reducible refine (HA1.out _).mono ?_); rintro e w' ⟨rfl, hb'⟩; have hb := nx hb hb'; clear hb') | (go_at_call 41; (with_reducible refine (HA2.out _).mono ?_); rintro e w' ⟨rfl, hb'⟩; have hb := nx hb hb'; clear hb') | (go_at_call 41; (with_reducible refine (HAC.out _).mono ?_); rintro e w' ⟨rfl, hb'⟩; have hb := nx hb hb'; clear hb') | (go_at_call 19; (with_reducible refine (HCO.out _).mono ?_); rintro e w' ⟨rfl, hb'⟩; have hb := nx hb hb'; clear hb') | (go_at_call 40; (with_reducible refine (HOC.out _).mono ?_); rintro e w' ⟨rfl, hb'⟩; have hb := nx hb hb'; clear hb'))
      go_ret
      exact ⟨rfl, hb⟩
    obtain ⟨m, rfl⟩ : ∃ m : Nat, c = m := ⟨c.toNat, by omega⟩
    have hz := of_at (bs s) m (by rw [← hN]; omega)
    obtain ⟨z, hzz⟩ : ∃ z, z = atN (bs s) m := ⟨_, rfl⟩
    rw [← hzz] at hz
    have HAC := Lib.hid (c_at s hs (m : Int) (z : Int) 0 (by rw [atZ_in (by rw [← hN]; omega), Int.toNat_natCast, hzz]))
    have HOC := Lib.hid (c_of s hs (z : Int) (m : Int) 0 (by rw [ofZ_in (by omega), Int.toNat_natCast, hz.2]))
    clear hz hzz
    clear hN
    go_enter Tryd.func12, Tryd.ntmps12
    go_wp2_with (first | (go_at_call 30; (with_reducible refine (awake_any _ (HT.out.below hb (Nat.le_refl _))).mono ?_); rintro e w' ⟨rfl, hb'⟩; have hb := nx hb hb'; clear hb') | (go_at_call 40; (with_reducible refine (HOF.out _).mono ?_); rintro e w' ⟨rfl, hb'⟩; have hb := nx hb hb'; clear hb') | (go_at_call 33; (with_reducible refine (HBG.out _ (HT.out.below hb (Nat.le_refl _))).mono ?_); rintro e w' ⟨rfl, hb'⟩; have hb := nx hb hb'; clear hb') | (go_at_call 41; (with_reducible refine (HA1.out _).mono ?_); rintro e w' ⟨rfl, hb'⟩; have hb := nx hb hb'; clear hb') | (go_at_call 41; (with_reducible refine (HA2.out _).mono ?_); rintro e w' ⟨rfl, hb'⟩; have hb := nx hb hb'; clear hb') | (go_at_call 41; (with_reducible refine (HAC.out _).mono ?_); rintro e w' ⟨rfl, hb'⟩; have hb := nx hb hb'; clear hb') | (go_at_call 19; (with_reducible refine (HCO.out _).mono ?_); rintro e w' ⟨rfl, hb'⟩; have hb := nx hb hb'; clear hb') | (go_at_call 40; (with_reducible refine (HOC.out _).mono ?_); rintro e w' ⟨rfl, hb'⟩; have hb := nx hb hb'; clear hb'))
    go_ret
    exact ⟨rfl, hb⟩
  by_cases h1b : (s.size : Int) < p
  · have HOF := Lib.hid (c_of s hs p 0 6 (ofZ_out (by rw [← size_bs]; omega)))
    have HBG := Lib.hid (c_begins s hs p false (begB_beyond (by rw [← size_bs]; exact h1b)))
    by_cases h2 : c < 0
    · have HAC := Lib.hid (c_at s hs c 0 6 (atZ_out (by omega)))
      clear hN
      go_enter Tryd.func12, Tryd.ntmps12
      go_wp2_with (first | (go_at_call 30; (with_reducible refine (awake_any _ (HT.out.below hb (Nat.le_refl _))).mono ?_); rintro e w' ⟨rfl, hb'⟩; have hb := nx hb hb'; clear hb') | (go_at_call 40; (with_reducible refine (HOF.out _).mono ?_); rintro e w' ⟨rfl, hb'⟩; have hb := nx hb hb'; clear hb') | (go_at_call 33; (with_reducible refine (HBG.out _ (HT.out.below hb (Nat.le_refl _))).mono ?_); rintro e w' ⟨rfl, hb'⟩; have hb := nx hb hb'; clear hb') | (go_at_call 41; (with_reducible refine (HA1.out _).mono ?_); rintro e w' ⟨rfl, hb'⟩; have hb := nx hb hb'; clear hb') | (go_at_call 41; (with_reducible refine (HA2.out _).mono ?_); rintro e w' ⟨rfl, hb'⟩; have hb := nx hb hb'; clear hb') | (go_at_call 41; (with_reducible refine (HAC.out _).mono ?_); rintro e w' ⟨rfl, hb'⟩; have hb := nx hb hb'; clear hb') | (go_at_call 19; (with_reducible refine (HCO.out _).mono ?_); rintro e w' ⟨rfl, hb'⟩; have hb := nx hb hb'; clear hb') | (go_at_call 40; (with_reducible refine (HOC.out _).mono ?_); rintro e w' ⟨rfl, hb'⟩; have hb := nx hb hb'; clear hb'))
      go_ret
      exact ⟨rfl, hb⟩
    by_cases h3 : (N : Int) < c
    · have HAC := Lib.hid (c_at s hs c 0 6 (atZ_out (by rw [← hN]; omega)))
      clear hN
      go_enter Tryd.func12, Tryd.ntmps12
      go_wp2_with (first | (go_at_call 30; (with_reducible refine (awake_any _ (HT.out.below hb (Nat.le_refl _))).mono ?_); rintro e w' ⟨rfl, hb'⟩; have hb := nx hb hb'; clear hb') | (go_at_call 40; (with_reducible refine (HOF.out _).mono ?_); rintro e w' ⟨rfl, hb'⟩; have hb := nx hb hb'; clear hb') | (go_at_call 33; (with_reducible refine (HBG.out _ (HT.out.below hb (Nat.le_refl _))).mono ?_); rintro e w' ⟨rfl, hb'⟩; have hb := nx hb hb'; clear hb') | (go_at_call 41; (with_reducible refine (HA1.out _).mono ?_); rintro e w' ⟨rfl, hb'⟩; have hb := nx hb hb'; clear hb') | (go_at_call 41; (with_reducible refine (HA2.out _).mono ?_); rintro e w' ⟨rfl, hb'⟩; have hb := nx hb hb'; clear hb') | (go_at_call 41; (with_reducible refine (HAC.out _).mono ?_); rintro e w' ⟨rfl, hb'⟩; have hb := nx hb hb'; clear hb') | (go_at_call 19; (with_reducible refine (HCO.out _).mono ?_); rintro e w' ⟨rfl, hb'⟩; have hb := nx hb hb'; clear hb') | (go_at_call 40; (with_reducible refine (HOC.out _).mono ?_); rintro e w' ⟨rfl, hb'⟩; have hb := nx hb hb'; clear hb'))
      go_ret
      exact ⟨rfl, hb⟩
    obtain ⟨m, rfl⟩ : ∃ m : Nat, c = m := ⟨c.toNat, by omega⟩
    have hz := of_at (bs s) m (by rw [← hN]; omega)
    obtain ⟨z, hzz⟩ : ∃ z, z = atN (bs s) m := ⟨_, rfl⟩
    rw [← hzz] at hz
    have HAC := Lib.hid (c_at s hs (m : Int) (z : Int) 0 (by rw [atZ_in (by rw [← hN]; omega), Int.toNat_natCast, hzz]))
    have HOC := Lib.hid (c_of s hs (z : Int) (m : Int) 0 (by rw [ofZ_in (by omega), Int.toNat_natCast, hz.2]))
    clear hz hzz
    clear hN
    go_enter Tryd.func12, Tryd.ntmps12
    go_wp2_with (first | (go_at_call 30; (with_reducible refine (awake_any _ (HT.out.below hb (Nat.le_refl _))).mono ?_); rintro e w' ⟨rfl, hb'⟩; have hb := nx hb hb'; clear hb') | (go_at_call 40; (with_reducible refine (HOF.out _).mono ?_); rintro e w' ⟨rfl, hb'⟩; have hb := nx hb hb'; clear hb') | (go_at_call 33; (with_reducible refine (HBG.out _ (HT.out.below hb (Nat.le_refl _))).mono ?_); rintro e w' ⟨rfl, hb'⟩; have hb := nx hb hb'; clear hb') | (go_at_call 41; (with_reducible refine (HA1.out _).mono ?_); rintro e w' ⟨rfl, hb'⟩; have hb := nx hb hb'; clear hb') | (go_at_call 41; (with_reducible refine (HA2.out _).mono ?_); rintro e w' ⟨rfl, hb'⟩; have hb := nx hb hb'; clear hb') | (go_at_call 41; (with_reducible refine (HAC.out _).mono ?_); rintro e w' ⟨rfl, hb'⟩; have hb := nx hb hb'; clear hb') | (go_at_call 19; (with_reducible refine (HCO.out _).mono ?_); rintro e w' ⟨rfl, hb'⟩; have hb := nx hb hb'; clear hb') | (go_at_call 40; (with_reducible refine (HOC.out _).mono ?_); rintro e w' ⟨rfl, hb'⟩; have hb := nx hb hb'; clear hb'))
    go_ret
    exact ⟨rfl, hb⟩
  by_cases h1c : p = (s.size : Int)
  · have HOF := Lib.hid (c_of s hs p N 0 (by rw [ofZ_in (by rw [← size_bs]; omega), h1c, Int.toNat_natCast, size_bs, ofT_end, hN]))
    have HBG := Lib.hid (c_begins s hs p true (by rw [h1c, size_bs]; exact begB_t (Nat.le_refl _) ⟨_, Cut.full _⟩))
    have HA1 := Lib.hid (c_at s hs (N : Int) (s.size : Int) 0 (by rw [atZ_in (by rw [← hN]; omega), Int.toNat_natCast, hN, atN_full, size_bs]))
    have HA2 := Lib.hid (c_at s hs ((N : Int) + 1) 0 6 (atZ_out (by rw [← hN]; omega)))
    obtain rfl := h1c
    by_cases h2 : c < 0
    · have HAC := Lib.hid (c_at s hs c 0 6 (atZ_out (by omega)))
      clear hN
      go_enter Tryd.func12, Tryd.ntmps12
      go_wp2_with (first | (go_at_call 30; (with_reducible refine (awake_any _ (HT.out.below hb (Nat.le_refl _))).mono ?_); rintro e w' ⟨rfl, hb'⟩; have hb := nx hb hb'; clear hb') | (go_at_call 40; (with_reducible refine (HOF.out _).mono ?_); rintro e w' ⟨rfl, hb'⟩; have hb := nx hb hb'; clear hb') | (go_at_call 33; (with_reducible refine (HBG.out _ (HT.out.below hb (Nat.le_refl _))).mono ?_); rintro e w' ⟨rfl, hb'⟩; have hb := nx hb hb'; clear hb') | (go_at_call 41; (with_reducible refine (HA1.out _).mono ?_); rintro e w' ⟨rfl, hb'⟩; have hb := nx hb hb'; clear hb') | (go_at_call 41; (with_reducible refine (HA2.out _).mono ?_); rintro e w' ⟨rfl, hb'⟩; have hb := nx hb hb'; clear hb') | (go_at_call 41; (with_reducible refine (HAC.out _).mono ?_); rintro e w' ⟨rfl, hb'⟩; have hb := nx hb hb'; clear hb') | (go_at_call 19; (with_reducible refine (HCO.out _).mono ?_); rintro e w' ⟨rfl, hb'⟩; have hb := nx hb hb'; clear hb') | (go_at_call 40; (with_reducible refine (HOC.out _).mono ?_); rintro e w' ⟨rfl, hb'⟩; have hb := nx hb hb'; clear hb'))
      go_ret
      exact ⟨rfl, hb⟩
    by_cases h3 : (N : Int) < c
    · have HAC := Lib.hid (c_at s hs c 0 6 (atZ_out (by rw [← hN]; omega)))
      clear hN
      go_enter Tryd.func12, Tryd.ntmps12
      go_wp2_with (first | (go_at_call 30; (with_reducible refine (awake_any _ (HT.out.below hb (Nat.le_refl _))).mono ?_); rintro e w' ⟨rfl, hb'⟩; have hb := nx hb hb'; clear hb') | (go_at_call 40; (with_reducible refine (HOF.out _).mono ?_); rintro e w' ⟨rfl, hb'⟩; have hb := nx hb hb'; clear hb') | (go_at_call 33; (with_reducible refine (HBG.out _ (HT.out.below hb (Nat.le_refl _))).mono ?_); rintro e w' ⟨rfl, hb'⟩; have hb := nx hb hb'; clear hb') | (go_at_call 41; (with_reducible refine (HA1.out _).mono ?_); rintro e w' ⟨rfl, hb'⟩; have hb := nx hb hb'; clear hb') | (go_at_call 41; (with_reducible refine (HA2.out _).mono ?_); rintro e w' ⟨rfl, hb'⟩; have hb := nx hb hb'; clear hb') | (go_at_call 41; (with_reducible refine (HAC.out _).mono ?_); rintro e w' ⟨rfl, hb'⟩; have hb := nx hb hb'; clear hb') | (go_at_call 19; (with_reducible refine (HCO.out _).mono ?_); rintro e w' ⟨rfl, hb'⟩; have hb := nx hb hb'; clear hb') | (go_at_call 40; (with_reducible refine (HOC.out _).mono ?_); rintro e w' ⟨rfl, hb'⟩; have hb := nx hb hb'; clear hb'))
      go_ret
      exact ⟨rfl, hb⟩
    obtain ⟨m, rfl⟩ : ∃ m : Nat, c = m := ⟨c.toNat, by omega⟩
    have hz := of_at (bs s) m (by rw [← hN]; omega)
    obtain ⟨z, hzz⟩ : ∃ z, z = atN (bs s) m := ⟨_, rfl⟩
    rw [← hzz] at hz
    have HAC := Lib.hid (c_at s hs (m : Int) (z : Int) 0 (by rw [atZ_in (by rw [← hN]; omega), Int.toNat_natCast, hzz]))
    have HOC := Lib.hid (c_of s hs (z : Int) (m : Int) 0 (by rw [ofZ_in (by omega), Int.toNat_natCast, hz.2]))
    clear hz hzz
    clear hN
    go_enter Tryd.func12, Tryd.ntmps12
    go_wp2_with (first | (go_at_call 30; (with_reducible refine (awake_any _ (HT.out.below hb (Nat.le_refl _))).mono ?_); rintro e w' ⟨rfl, hb'⟩; have hb := nx hb hb'; clear hb') | (go_at_call 40; (with_reducible refine (HOF.out _).mono ?_); rintro e w' ⟨rfl, hb'⟩; have hb := nx hb hb'; clear hb') | (go_at_call 33; (with_reducible refine (HBG.out _ (HT.out.below hb (Nat.le_refl _))).mono ?_); rintro e w' ⟨rfl, hb'⟩; have hb := nx hb hb'; clear hb') | (go_at_call 41; (with_reducible refine (HA1.out _).mono ?_); rintro e w' ⟨rfl, hb'⟩; have hb := nx hb hb'; clear hb') | (go_at_call 41; (with_reducible refine (HA2.out _).mono ?_); rintro e w' ⟨rfl, hb'⟩; have hb := nx hb hb'; clear hb') | (go_at_call 41; (with_reducible refine (HAC.out _).mono ?_); rintro e w' ⟨rfl, hb'⟩; have hb := nx hb hb'; clear hb') | (go_at_call 19; (with_reducible refine (HCO.out _).mono ?_); rintro e w' ⟨rfl, hb'⟩; have hb := nx hb hb'; clear hb') | (go_at_call 40; (with_reducible refine (HOC.out _).mono ?_); rintro e w' ⟨rfl, hb'⟩; have hb := nx hb hb'; clear hb'))
    go_ret
    exact ⟨rfl, hb⟩
  obtain ⟨q, rfl⟩ : ∃ q : Nat, p = q := ⟨p.toNat, by omega⟩
  have hq : q < s.size := by omega
  obtain ⟨n, hn, hof, hx1, hy1, hx3, hbd⟩ := of_find (bs s) q (by rw [← size_bs]; exact hq)
  obtain ⟨x, hx⟩ : ∃ x, x = atN (bs s) n := ⟨_, rfl⟩
  obtain ⟨y, hy⟩ : ∃ y, y = atN (bs s) (n + 1) := ⟨_, rfl⟩
  rw [← hx] at hx1 hx3 hbd
  rw [← hy] at hy1
  rw [← hN] at hn
  have HOF := Lib.hid (c_of s hs q n 0 (by rw [ofZ_in (by rw [← size_bs]; omega), Int.toNat_natCast, hof]))
  have HA1 := Lib.hid (c_at s hs (n : Int) (x : Int) 0 (by rw [atZ_in (by rw [← hN]; omega), Int.toNat_natCast, hx]))
  have HA2 := Lib.hid (c_at s hs ((n : Int) + 1) (y : Int) 0 (by rw [atZ_in (by rw [← hN]; omega), show ((n : Int) + 1).toNat = n + 1 from by omega, hy]))
  by_cases hxq : x = q
  · have HBG := Lib.hid (c_begins s hs q true (begB_t (by rw [← size_bs]; omega) (hbd.1 hxq)))
    have heq : ((x : Int) == (q : Int)) = true := beq_iff_eq.2 (by omega)
    clear hof hx hy hbd hxq
    by_cases h2 : c < 0
    · have HAC := Lib.hid (c_at s hs c 0 6 (atZ_out (by omega)))
      clear hN
      go_enter Tryd.func12, Tryd.ntmps12
      go_wp2_with (first | (go_at_call 30; (with_reducible refine (awake_any _ (HT.out.below hb (Nat.le_refl _))).mono ?_); rintro e w' ⟨rfl, hb'⟩; have hb := nx hb hb'; clear hb') | (go_at_call 40; (with_reducible refine (HOF.out _).mono ?_); rintro e w' ⟨rfl, hb'⟩; have hb := nx hb hb'; clear hb') | (go_at_call 33; (with_reducible refine (HBG.out _ (HT.out.below hb (Nat.le_refl _))).mono ?_); rintro e w' ⟨rfl, hb'⟩; have hb := nx hb hb'; clear hb') | (go_at_call 41; (with_reducible refine (HA1.out _).mono ?_); rintro e w' ⟨rfl, hb'⟩; have hb := nx hb hb'; clear hb') | (go_at_call 41; (with_reducible refine (HA2.out _).mono ?_); rintro e w' ⟨rfl, hb'⟩; have hb := nx hb hb'; clear hb') | (go_at_call 41; (with_reducible refine (HAC.out _).mono ?_); rintro e w' ⟨rfl, hb'⟩; have hb := nx hb hb'; clear hb') | (go_at_call 19; (with_reducible refine (HCO.out _).mono ?_); rintro e w' ⟨rfl, hb'⟩; have hb := nx hb hb'; clear hb') | (go_at_call 40; (with_reducible refine (HOC.out _).mono ?_); rintro e w' ⟨rfl, hb'⟩; have hb := nx hb hb'; clear hb'))
      go_ret
      exact ⟨rfl, hb⟩
    by_cases h3 : (N : Int) < c
    · have HAC := Lib.hid (c_at s hs c 0 6 (atZ_out (by rw [← hN]; omega)))
      clear hN
      go_enter Tryd.func12, Tryd.ntmps12
      go_wp2_with (first | (go_at_call 30; (with_reducible refine (awake_any _ (HT.out.below hb (Nat.le_refl _))).mono ?_); rintro e w' ⟨rfl, hb'⟩; have hb := nx hb hb'; clear hb') | (go_at_call 40; (with_reducible refine (HOF.out _).mono ?_); rintro e w' ⟨rfl, hb'⟩; have hb := nx hb hb'; clear hb') | (go_at_call 33; (with_reducible refine (HBG.out _ (HT.out.below hb (Nat.le_refl _))).mono ?_); rintro e w' ⟨rfl, hb'⟩; have hb := nx hb hb'; clear hb') | (go_at_call 41; (with_reducible refine (HA1.out _).mono ?_); rintro e w' ⟨rfl, hb'⟩; have hb := nx hb hb'; clear hb') | (go_at_call 41; (with_reducible refine (HA2.out _).mono ?_); rintro e w' ⟨rfl, hb'⟩; have hb := nx hb hb'; clear hb') | (go_at_call 41; (with_reducible refine (HAC.out _).mono ?_); rintro e w' ⟨rfl, hb'⟩; have hb := nx hb hb'; clear hb') | (go_at_call 19; (with_reducible refine (HCO.out _).mono ?_); rintro e w' ⟨rfl, hb'⟩; have hb := nx hb hb'; clear hb') | (go_at_call 40; (with_reducible refine (HOC.out _).mono ?_); rintro e w' ⟨rfl, hb'⟩; have hb := nx hb hb'; clear hb'))
      go_ret
      exact ⟨rfl, hb⟩
    obtain ⟨m, rfl⟩ : ∃ m : Nat, c = m := ⟨c.toNat, by omega⟩
    have hz := of_at (bs s) m (by rw [← hN]; omega)
    obtain ⟨z, hzz⟩ : ∃ z, z = atN (bs s) m := ⟨_, rfl⟩
    rw [← hzz] at hz
    have HAC := Lib.hid (c_at s hs (m : Int) (z : Int) 0 (by rw [atZ_in (by rw [← hN]; omega), Int.toNat_natCast, hzz]))
    have HOC := Lib.hid (c_of s hs (z : Int) (m : Int) 0 (by rw [ofZ_in (by omega), Int.toNat_natCast, hz.2]))
    clear hz hzz
    clear hN
    go_enter Tryd.func12, Tryd.ntmps12
    go_wp2_with (first | (go_at_call 30; (with_reducible refine (awake_any _ (HT.out.below hb (Nat.le_refl _))).mono ?_); rintro e w' ⟨rfl, hb'⟩; have hb := nx hb hb'; clear hb') | (go_at_call 40; (with_reducible refine (HOF.out _).mono ?_); rintro e w' ⟨rfl, hb'⟩; have hb := nx hb hb'; clear hb') | (go_at_call 33; (with_reducible refine (HBG.out _ (HT.out.below hb (Nat.le_refl _))).mono ?_); rintro e w' ⟨rfl, hb'⟩; have hb := nx hb hb'; clear hb') | (go_at_call 41; (with_reducible refine (HA1.out _).mono ?_); rintro e w' ⟨rfl, hb'⟩; have hb := nx hb hb'; clear hb') | (go_at_call 41; (with_reducible refine (HA2.out _).mono ?_); rintro e w' ⟨rfl, hb'⟩; have hb := nx hb hb'; clear hb') | (go_at_call 41; (with_reducible refine (HAC.out _).mono ?_); rintro e w' ⟨rfl, hb'⟩; have hb := nx hb hb'; clear hb') | (go_at_call 19; (with_reducible refine (HCO.out _).mono ?_); rintro e w' ⟨rfl, hb'⟩; have hb := nx hb hb'; clear hb') | (go_at_call 40; (with_reducible refine (HOC.out _).mono ?_); rintro e w' ⟨rfl, hb'⟩; have hb := nx hb hb'; clear hb'))
    go_ret
    exact ⟨rfl, hb⟩
  have HBG := Lib.hid (c_begins s hs q false (begB_f (by rw [← size_bs]; omega) (fun h => hxq (hbd.2 h))))
  have heq : ((x : Int) == (q : Int)) = false := beq_eq_false_iff_ne.2 (by omega)
  clear hof hx hy hbd hxq
  by_cases h2 : c < 0
  · have HAC := Lib.hid (c_at s hs c 0 6 (atZ_out (by omega)))
    clear hN
    go_enter Tryd.func12, Tryd.ntmps12
    go_wp2_with (first | (go_at_call 30; (with_reducible refine (awake_any _ (HT.out.below hb (Nat.le_refl _))).mono ?_); rintro e w' ⟨rfl, hb'⟩; have hb := nx hb hb'; clear hb') | (go_at_call 40; (with_reducible refine (HOF.out _).mono ?_); rintro e w' ⟨rfl, hb'⟩; have hb := nx hb hb'; clear hb') | (go_at_call 33; (with_reducible refine (HBG.out _ (HT.out.below hb (Nat.le_refl _))).mono ?_); rintro e w' ⟨rfl, hb'⟩; have hb := nx hb hb'; clear hb') | (go_at_call 41; (with_reducible refine (HA1.out _).mono ?_); rintro e w' ⟨rfl, hb'⟩; have hb := nx hb hb'; clear hb') | (go_at_call 41; (with_reducible refine (HA2.out _).mono ?_); rintro e w' ⟨rfl, hb'⟩; have hb := nx hb hb'; clear hb') | (go_at_call 41; (with_reducible refine (HAC.out _).mono ?_); rintro e w' ⟨rfl, hb'⟩; have hb := nx hb hb'; clear hb') | (go_at_call 19; (with_reducible refine (HCO.out _).mono ?_); rintro e w' ⟨rfl, hb'⟩; have hb := nx hb hb'; clear hb') | (go_at_call 40; (with_reducible refine (HOC.out _).mono ?_); rintro e w' ⟨rfl, hb'⟩; have hb := nx hb hb'; clear hb'))
    go_ret
    exact ⟨rfl, hb⟩
  by_cases h3 : (N : Int) < c
  · have HAC := Lib.hid (c_at s hs c 0 6 (atZ_out (by rw [← hN]; omega)))
    clear hN
    go_enter Tryd.func12, Tryd.ntmps12
    go_wp2_with (first | (go_at_call 30; (with_reducible refine (awake_any _ (HT.out.below hb (Nat.le_refl _))).mono ?_); rintro e w' ⟨rfl, hb'⟩; have hb := nx hb hb'; clear hb') | (go_at_call 40; (with_reducible refine (HOF.out _).mono ?_); rintro e w' ⟨rfl, hb'⟩; have hb := nx hb hb'; clear hb') | (go_at_call 33; (with_reducible refine (HBG.out _ (HT.out.below hb (Nat.le_refl _))).mono ?_); rintro e w' ⟨rfl, hb'⟩; have hb := nx hb hb'; clear hb') | (go_at_call 41; (with_reducible refine (HA1.out _).mono ?_); rintro e w' ⟨rfl, hb'⟩; have hb := nx hb hb'; clear hb') | (go_at_call 41; (with_reducible refine (HA2.out _).mono ?_); rintro e w' ⟨rfl, hb'⟩; have hb := nx hb hb'; clear hb') | (go_at_call 41; (with_reducible refine (HAC.out _).mono ?_); rintro e w' ⟨rfl, hb'⟩; have hb := nx hb hb'; clear hb') | (go_at_call 19; (with_reducible refine (HCO.out _).mono ?_); rintro e w' ⟨rfl, hb'⟩; have hb := nx hb hb'; clear hb') | (go_at_call 40; (with_reducible refine (HOC.out _).mono ?_); rintro e w' ⟨rfl, hb'⟩; have hb := nx hb hb'; clear hb'))
    go_ret
    exact ⟨rfl, hb⟩
  obtain ⟨m, rfl⟩ : ∃ m : Nat, c = m := ⟨c.toNat, by omega⟩
  have hz := of_at (bs s) m (by rw [← hN]; omega)
  obtain ⟨z, hzz⟩ : ∃ z, z = atN (bs s) m := ⟨_, rfl⟩
  rw [← hzz] at hz
  have HAC := Lib.hid (c_at s hs (m : Int) (z : Int) 0 (by rw [atZ_in (by rw [← hN]; omega), Int.toNat_natCast, hzz]))
  have HOC := Lib.hid (c_of s hs (z : Int) (m : Int) 0 (by rw [ofZ_in (by omega), Int.toNat_natCast, hz.2]))
  clear hz hzz
  clear hN
  go_enter Tryd.func12, Tryd.ntmps12
  go_wp2_with (first | (go_at_call 30; (with_reducible refine (awake_any _ (HT.out.below hb (Nat.le_refl _))).mono ?_); rintro e w' ⟨rfl, hb'⟩; have hb := nx hb hb'; clear hb') | (go_at_call 40; (with_reducible refine (HOF.out _).mono ?_); rintro e w' ⟨rfl, hb'⟩; have hb := nx hb hb'; clear hb') | (go_at_call 33; (with_reducible refine (HBG.out _ (HT.out.below hb (Nat.le_refl _))).mono ?_); rintro e w' ⟨rfl, hb'⟩; have hb := nx hb hb'; clear hb') | (go_at_call 41; (with_reducible refine (HA1.out _).mono ?_); rintro e w' ⟨rfl, hb'⟩; have hb := nx hb hb'; clear hb') | (go_at_call 41; (with_reducible refine (HA2.out _).mono ?_); rintro e w' ⟨rfl, hb'⟩; have hb := nx hb hb'; clear hb') | (go_at_call 41; (with_reducible refine (HAC.out _).mono ?_); rintro e w' ⟨rfl, hb'⟩; have hb := nx hb hb'; clear hb') | (go_at_call 19; (with_reducible refine (HCO.out _).mono ?_); rintro e w' ⟨rfl, hb'⟩; have hb := nx hb hb'; clear hb') | (go_at_call 40; (with_reducible refine (HOC.out _).mono ?_); rintro e w' ⟨rfl, hb'⟩; have hb := nx hb hb'; clear hb'))
  go_ret
  exact ⟨rfl, hb⟩
end Go.Proofs.YtnfjohlbpbonhaaDoor
