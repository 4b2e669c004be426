/-
  The contracts of the program's Last, Begins, At and Of.
-/
import Derived.Test.YtkknmbkfiiidmaaDoorFirst
namespace Go.Proofs.YtkknmbkfiiidmaaDoor
open Go.RowKit

theorem rightR_imp {r : Int} {n : Nat} (h : rightR r n = false) : r = 65533 ∧ n = 1 := by
  unfold rightR at h
  simp at h
  exact h

set_option maxHeartbeats 400000 in
theorem last_empty (s : ByteArray) (hs : s.size = 0) (w : World) :
    Calls Tryd.prog 56 #[.string s] w fun e w' => e = .returned (.tuple #[.int .i32 0, .int .i64 0, .bool false]) ∧ w = w' := by
  go_enter Tryd.func56, Tryd.ntmps56
  go_wp2
  go_ret3
  exact ⟨rfl, rfl⟩

set_option maxHeartbeats 1000000 in
theorem last_some (s : ByteArray) (hs : s.size ≤ 140737488351232) (h0 : s.size ≠ 0) (w : World) (hT : Tabs w) :
    Calls Tryd.prog 56 #[.string s] w fun e w' => e = .returned (.tuple #[.int .i32 (lastC (bs s)).1, .int .i64 (lastC (bs s)).2, .bool (rightR (lastC (bs s)).1 (lastC (bs s)).2)]) ∧ Below w.heap.size w w' := by
  have hn0 : ((s.size : Int) == 0) = false := beq_eq_false_iff_ne.2 (by omega)
  have hp : 0 < s.size := by omega
  clear h0
  have HT := Lib.hid hT
  clear hT
  go_enter Tryd.func56, Tryd.ntmps56
  go_wp2
  go_loop [6] (fun i => ∃ k : Nat, 1 ≤ k ∧ k ≤ 5 ∧ k ≤ s.size + 1 ∧ i = .int .i64 k ∧ Hid (∀ j, 1 ≤ j → j < k → Fol (by' (bs s) (s.size - j)))) (fun i => 5 - (intOf i).toNat)
  case atStart => exact ⟨1, by omega, by omega, by omega, rfl, (show Hid _ from fun j h1 h2 => absurd h2 (by omega))⟩
  case round =>
    obtain ⟨k, hk1, hk5, hkn, rfl, hf⟩ := hrel
    by_cases hin : k ≤ 4 ∧ k ≤ s.size
    · obtain ⟨h4, hks⟩ := hin
      have hsub : s.size - k < s.size := by omega
      by_cases hF : Fol (by' (bs s) (s.size - k))
      · have hft := folB_t hF
        have hg := get_bs s (s.size - k) hsub
        have HF := Lib.hid hF
        clear hF
        go_wp2_with (go_at_call 48; (with_reducible refine (follows_any _ (by_lt _ _) _).mono ?_); rintro e w' ⟨rfl, rfl⟩)
        go_round
        case rel =>
          refine ⟨k + 1, by omega, by omega, by omega, by go_num, (show Hid _ from fun j h1 h2 => ?_)⟩
          by_cases e : j = k
          · subst e; exact HF.out
          · exact hf.out j h1 (by omega)
        case measure => simp [intOf]; omega
      · have hft := folB_f hF
        have hg := get_bs s (s.size - k) hsub
        have hback := lastC_back (l := bs s) hk1 (by rw [← size_bs]; exact hks) (by rw [← size_bs]; exact hf.out) (by rw [← size_bs]; exact hF)
        rw [← size_bs] at hback
        have hE : (s.extract (s.size - k) s.size).size ≠ 0 := by rw [size_bs, bs_drop]; simp; omega
        obtain ⟨d, hd⟩ : ∃ d, d = Lib.decodeL ((bs s).drop (s.size - k)) := ⟨_, rfl⟩
        have hFi := fun w (hT : Tabs w) => first_some (s.extract (s.size - k) s.size) d.1 d.2 hE (by rw [bs_drop, ← hd]) (by rw [bs_drop, ← hd]) w hT
        rw [← hd] at hback
        have HFi := Lib.hid hFi
        have HB := Lib.hid hback
        obtain ⟨r, n⟩ := d
        clear hFi hback hd hF hE
        simp only at HFi HB
        by_cases hr : rightR r n = true
        · by_cases hnk : n = k
          · have HNK := Lib.hid hnk
            have hnk2 : ((n : Int) == (k : Int)) = true := by simp [hnk]
            clear hnk
            have hL := HB.out.1 HNK.out
            have HL := Lib.hid hL
            clear hL
            go_wp2_with (first | (go_at_call 48; (with_reducible refine (follows_any _ (by_lt _ _) _).mono ?_); rintro e w' ⟨rfl, rfl⟩) | (go_at_call 49; (with_reducible refine (HFi.out _ HT.out).mono ?_); rintro e w' ⟨rfl, hb⟩))
            go_ret3
            rw [HL.out]
            exact ⟨by rw [hr]; rfl, hb⟩
          · have hnk2 : ((n : Int) == (k : Int)) = false := by simp; omega
            have HL := Lib.hid (HB.out.2 hnk)
            clear hnk
            go_wp2_with (first | (go_at_call 48; (with_reducible refine (follows_any _ (by_lt _ _) _).mono ?_); rintro e w' ⟨rfl, rfl⟩) | (go_at_call 49; (with_reducible refine (HFi.out _ HT.out).mono ?_); rintro e w' ⟨rfl, hb⟩))
            go_ret3
            rw [HL.out]
            exact ⟨rfl, hb⟩
        · have hr2 : rightR r n = false := Bool.eq_false_iff.2 hr
          clear hr
          have hL : lastC (bs s) = (65533, 1) := by
            have h1 := rightR_imp hr2
            by_cases e : n = k
            · rw [HB.out.1 e, h1.2]
              congr 1
              omega
            · exact HB.out.2 e
          have HL := Lib.hid hL
          clear hL
          go_wp2_with (first | (go_at_call 48; (with_reducible refine (follows_any _ (by_lt _ _) _).mono ?_); rintro e w' ⟨rfl, rfl⟩) | (go_at_call 49; (with_reducible refine (HFi.out _ HT.out).mono ?_); rintro e w' ⟨rfl, hb⟩))
          go_ret3
          rw [HL.out]
          exact ⟨rfl, hb⟩
    · have hL : lastC (bs s) = (65533, 1) := lastC_far (by rw [← size_bs]; exact hp) (fun j h1 h2 h3 => by rw [← size_bs] at h3 ⊢; exact hf.out j h1 (by omega))
      have HL := Lib.hid hL
      clear hL
      by_cases h4 : k ≤ 4
      · have hks : ¬ k ≤ s.size := by omega
        clear hin
        go_wp2
        go_ret3
        rw [HL.out]
        exact ⟨rfl, Below.refl _ _⟩
      · clear hin
        go_wp2
        go_ret3
        rw [HL.out]
        exact ⟨rfl, Below.refl _ _⟩

/-! ### At -/
theorem atZ_in {l : Bs} {c : Int} (h : 0 ≤ c ∧ c ≤ (countN l : Int)) : atZ l c = (((atN l c.toNat : Nat) : Int), 0) := if_pos h
theorem atZ_out {l : Bs} {c : Int} (h : ¬ (0 ≤ c ∧ c ≤ (countN l : Int))) : atZ l c = (0, 6) := if_neg h

/-! ### Of -/
theorem ofZ_in {l : Bs} {c : Int} (h : 0 ≤ c ∧ c ≤ (l.length : Int)) : ofZ l c = (((ofT (tk l) c.toNat : Nat) : Int), 0) := if_pos h
theorem ofZ_out {l : Bs} {c : Int} (h : ¬ (0 ≤ c ∧ c ≤ (l.length : Int))) : ofZ l c = (0, 6) := if_neg h

/-- what is done when a character begins behind a place, all others having begun at it or ahead of it -/
theorem of_done {l : Bs} {done : List (Nat × Nat)} {p q : Nat} (hc : Cut l done p) (hq : q < p) (_hp : p ≤ l.length) (hall : ∀ d c, done = d ++ [c] → wsum d ≤ q) : ofT (tk l) q = done.length - 1 ∧ 1 ≤ done.length := by
  rcases List.eq_nil_or_concat done with rfl | ⟨d, c, rfl⟩
  · have := hc.2.2; simp [wsum] at this; omega
  · rw [List.concat_eq_append] at hc hall ⊢
    have h1 := hall d c rfl
    have h2 := hc.2.2
    rw [wsum_append, wsum_cons, wsum_nil] at h2
    rw [hc.2.1]
    simp only [List.append_assoc, List.singleton_append]
    rw [ofT_append _ _ _ h1, ofT, if_pos (by omega)]
    simp

/-! ### Begins -/
theorem begB_t {l : Bs} {q : Nat} (hq : q ≤ l.length) (h : Border l q) : begB l (q : Int) = true := by
  have := (bordT_iff l q hq).2 h
  simp [begB, this, hq]
theorem begB_f {l : Bs} {q : Nat} (hq : q ≤ l.length) (h : ¬ Border l q) : begB l (q : Int) = false := by
  have : bordT (tk l) q = false := Bool.eq_false_iff.2 fun e => h ((bordT_iff l q hq).1 e)
  simp [begB, this]
theorem begB_neg {l : Bs} {c : Int} (h : c < 0) : begB l c = false := by
  have : decide (0 ≤ c) = false := by simp; omega
  simp [begB, this]
theorem begB_beyond {l : Bs} {c : Int} (h : (l.length : Int) < c) : begB l c = false := by
  have : decide (c ≤ (l.length : Int)) = false := by simp; omega
  simp [begB, this]

set_option maxHeartbeats 1000000 in
theorem begins_any (s : ByteArray) (hs : s.size ≤ 140737488351232) (c : Int) (w : World) (hT : Tabs w) :
    Calls Tryd.prog 30 #[.string s, .int .i64 c] w fun e w' => e = .returned (.bool (begB (bs s) c)) ∧ Below w.heap.size w w' := by
  have HT := Lib.hid hT
  clear hT
  by_cases hc0 : c < 0
  · have H := Lib.hid (begB_neg (l := bs s) hc0)
    have he : (c == (s.size : Int)) = false := beq_eq_false_iff_ne.2 (by omega)
    go_enter Tryd.func30, Tryd.ntmps30
    go_wp2
    go_ret
    rw [H.out]
    exact ⟨rfl, Below.refl _ _⟩
  by_cases hc1 : (s.size : Int) ≤ c
  · by_cases hc2 : c = (s.size : Int)
    · have H := Lib.hid (show begB (bs s) c = true by rw [hc2, size_bs]; exact begB_t (Nat.le_refl _) ⟨_, Cut.full _⟩)
      have he : (c == (s.size : Int)) = true := beq_iff_eq.2 hc2
      clear hc2
      go_enter Tryd.func30, Tryd.ntmps30
      go_wp2
      go_ret
      rw [H.out]
      exact ⟨rfl, Below.refl _ _⟩
    · have H := Lib.hid (begB_beyond (l := bs s) (c := c) (by rw [← size_bs]; omega))
      have he : (c == (s.size : Int)) = false := beq_eq_false_iff_ne.2 (by omega)
      go_enter Tryd.func30, Tryd.ntmps30
      go_wp2
      go_ret
      rw [H.out]
      exact ⟨rfl, Below.refl _ _⟩
  obtain ⟨q, rfl⟩ : ∃ q : Nat, c = q := ⟨c.toNat, by omega⟩
  have hq : q < s.size := by omega
  have hql : q < (bs s).length := by rw [← size_bs]; exact hq
  clear hc0 hc1
  have hg := get_bs s q hq
  by_cases hF : Fol (by' (bs s) q)
  · have hft := folB_t hF
    have HF := Lib.hid hF
    have HQ := Lib.hid hql
    clear hF hql
    go_enter Tryd.func30, Tryd.ntmps30
    go_wp2_with (go_at_call 48; (with_reducible refine (follows_any _ (by_lt _ _) _).mono ?_); rintro e w' ⟨rfl, rfl⟩)
    go_loop [5] (fun i => ∃ k : Nat, 1 ≤ k ∧ k ≤ 4 ∧ k ≤ q + 1 ∧ i = .int .i64 k ∧ Hid (∀ i, q < i + k → i < q → Fol (by' (bs s) i))) (fun i => 4 - (intOf i).toNat)
    case atStart => exact ⟨1, by omega, by omega, by omega, rfl, (show Hid _ from fun i h1 h2 => absurd h2 (by omega))⟩
    case round =>
      obtain ⟨k, hk1, hk4, hkq, rfl, hf⟩ := hrel
      by_cases hin : k ≤ 3 ∧ k ≤ q
      · obtain ⟨h4, hks⟩ := hin
        have hsub : q - k < s.size := by omega
        have hg2 := get_bs s (q - k) hsub
        by_cases hF2 : Fol (by' (bs s) (q - k))
        · have hft2 := folB_t hF2
          have HF2 := Lib.hid hF2
          clear hF2
          go_wp2_with (go_at_call 48; (with_reducible refine (follows_any _ (by_lt _ _) _).mono ?_); rintro e w' ⟨rfl, rfl⟩)
          go_round
          case rel =>
            refine ⟨k + 1, by omega, by omega, by omega, by go_num, (show Hid _ from fun i h1 h2 => ?_)⟩
            by_cases e : i = q - k
            · subst e; exact HF2.out
            · exact hf.out i (by omega) h2
          case measure => simp [intOf]; omega
        · have hft2 := folB_f hF2
          have hback := border_iff_back (l := bs s) (p := q) (k := k) (Nat.le_of_lt HQ.out) hk1 hks hF2 (fun i h1 h2 => hf.out i (by omega) h2)
          have hE : (s.extract (q - k) s.size).size ≠ 0 := by rw [size_bs, bs_drop]; simp; omega
          obtain ⟨d, hd⟩ : ∃ d, d = Lib.decodeL ((bs s).drop (q - k)) := ⟨_, rfl⟩
          have hFi := fun w (hT : Tabs w) => first_some (s.extract (q - k) s.size) d.1 d.2 hE (by rw [bs_drop, ← hd]) (by rw [bs_drop, ← hd]) w hT
          rw [← hd] at hback
          have HFi := Lib.hid hFi
          have hB : begB (bs s) (q : Int) = decide (d.2 ≤ k) := by
            by_cases h : d.2 ≤ k
            · rw [begB_t (Nat.le_of_lt HQ.out) (hback.2 h)]; simp [h]
            · rw [begB_f (Nat.le_of_lt HQ.out) (fun e => h (hback.1 e))]; simp [h]
          have HB := Lib.hid hB
          obtain ⟨r, n⟩ := d
          clear hFi hback hd hF2 hE hB
          simp only at HFi HB
          go_wp2_with (first | (go_at_call 48; (with_reducible refine (follows_any _ (by_lt _ _) _).mono ?_); rintro e w' ⟨rfl, rfl⟩) | (go_at_call 49; (with_reducible refine (HFi.out _ HT.out).mono ?_); rintro e w' ⟨rfl, hb⟩))
          go_ret
          rw [HB.out]
          exact ⟨rfl, hb⟩
      · have hB : begB (bs s) (q : Int) = true := by
          refine begB_t (Nat.le_of_lt HQ.out) ?_
          by_cases h : k = 4
          · exact border_far (k := 3) (Nat.le_of_lt HQ.out) (.inl rfl) (by omega) (fun i h1 h2 => hf.out i (by omega) h2)
          · exact border_far (k := q) (Nat.le_of_lt HQ.out) (.inr rfl) (Nat.le_refl _) (fun i h1 h2 => hf.out i (by omega) h2)
        have HB := Lib.hid hB
        clear hB
        by_cases h4 : k ≤ 3
        · have hks : ¬ k ≤ q := by omega
          clear hin
          go_wp2
          go_ret
          rw [HB.out]
          exact ⟨rfl, Below.refl _ _⟩
        · clear hin
          go_wp2
          go_ret
          rw [HB.out]
          exact ⟨rfl, Below.refl _ _⟩
  · have hft := folB_f hF
    have HB := Lib.hid (begB_t (Nat.le_of_lt hql) (border_nofol _ q hql hF))
    clear hF hql
    go_enter Tryd.func30, Tryd.ntmps30
    go_wp2_with (go_at_call 48; (with_reducible refine (follows_any _ (by_lt _ _) _).mono ?_); rintro e w' ⟨rfl, rfl⟩)
    go_ret
    rw [HB.out]
    exact ⟨rfl, Below.refl _ _⟩
end Go.Proofs.YtkknmbkfiiidmaaDoor
