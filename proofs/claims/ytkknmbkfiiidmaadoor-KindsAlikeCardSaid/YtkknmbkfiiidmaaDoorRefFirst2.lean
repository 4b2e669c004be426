/-
  The contract of the document's First: it tells the same character as the model's own decoding.
-/
import Derived.Test.YtkknmbkfiiidmaaDoorRefFirst
namespace Go.Proofs.YtkknmbkfiiidmaaDoor
open Go.RowKit

/-- do the first w bytes stand for a rune that may be, written as it is written? -/
def hit (l : Bs) (w : Nat) : Bool := mayB (numZ l w) && (begZ l (seqZ (numZ l w)) && decide ((seqZ (numZ l w)).length = w))

theorem begZ_1 (l : Bs) (a : Int) : begZ l [a] = true ↔ 1 ≤ l.length ∧ (by' l 0 : Int) = a := by
  simp only [begZ, decide_eq_true_eq, List.length_cons, List.length_nil]
  constructor
  · intro h; exact ⟨h.1, by simpa using h.2 0 (by omega)⟩
  · intro h; exact ⟨h.1, fun i hi => by obtain rfl : i = 0 := by omega
                                        simpa using h.2⟩
theorem begZ_2 (l : Bs) (a b : Int) : begZ l [a, b] = true ↔ 2 ≤ l.length ∧ (by' l 0 : Int) = a ∧ (by' l 1 : Int) = b := by
  simp only [begZ, decide_eq_true_eq, List.length_cons, List.length_nil]
  constructor
  · intro h; exact ⟨h.1, by simpa using h.2 0 (by omega), by simpa using h.2 1 (by omega)⟩
  · intro h
    refine ⟨h.1, fun i hi => ?_⟩
    obtain rfl | rfl : i = 0 ∨ i = 1 := by omega
    · simpa using h.2.1
    · simpa using h.2.2
theorem begZ_3 (l : Bs) (a b c : Int) : begZ l [a, b, c] = true ↔ 3 ≤ l.length ∧ (by' l 0 : Int) = a ∧ (by' l 1 : Int) = b ∧ (by' l 2 : Int) = c := by
  simp only [begZ, decide_eq_true_eq, List.length_cons, List.length_nil]
  constructor
  · intro h; exact ⟨h.1, by simpa using h.2 0 (by omega), by simpa using h.2 1 (by omega), by simpa using h.2 2 (by omega)⟩
  · intro h
    refine ⟨h.1, fun i hi => ?_⟩
    obtain rfl | rfl | rfl : i = 0 ∨ i = 1 ∨ i = 2 := by omega
    · simpa using h.2.1
    · simpa using h.2.2.1
    · simpa using h.2.2.2
theorem begZ_4 (l : Bs) (a b c d : Int) : begZ l [a, b, c, d] = true ↔ 4 ≤ l.length ∧ (by' l 0 : Int) = a ∧ (by' l 1 : Int) = b ∧ (by' l 2 : Int) = c ∧ (by' l 3 : Int) = d := by
  simp only [begZ, decide_eq_true_eq, List.length_cons, List.length_nil]
  constructor
  · intro h; exact ⟨h.1, by simpa using h.2 0 (by omega), by simpa using h.2 1 (by omega), by simpa using h.2 2 (by omega), by simpa using h.2 3 (by omega)⟩
  · intro h
    refine ⟨h.1, fun i hi => ?_⟩
    obtain rfl | rfl | rfl | rfl : i = 0 ∨ i = 1 ∨ i = 2 ∨ i = 3 := by omega
    · simpa using h.2.1
    · simpa using h.2.2.1
    · simpa using h.2.2.2.1
    · simpa using h.2.2.2.2

theorem seqZ_class (r : Int) : (r < 128 ∧ seqZ r = [r]) ∨ (128 ≤ r ∧ r < 2048 ∧ seqZ r = [192 + r / 64, 128 + r % 64]) ∨ (2048 ≤ r ∧ r < 65536 ∧ seqZ r = [224 + r / 4096, 128 + r / 64 % 64, 128 + r % 64]) ∨
    (65536 ≤ r ∧ seqZ r = [240 + r / 262144, 128 + r / 4096 % 64, 128 + r / 64 % 64, 128 + r % 64]) := by
  by_cases h1 : r < 128
  · exact .inl ⟨h1, seqZ_one h1⟩
  · by_cases h2 : r < 2048
    · exact .inr (.inl ⟨by omega, h2, seqZ_two h1 h2⟩)
    · by_cases h3 : r < 65536
      · exact .inr (.inr (.inl ⟨by omega, h3, seqZ_three h2 h3⟩))
      · exact .inr (.inr (.inr ⟨by omega, seqZ_four h3⟩))

theorem hit_iff (l : Bs) (w : Nat) : hit l w = true ↔ mayB (numZ l w) = true ∧ begZ l (seqZ (numZ l w)) = true ∧ (seqZ (numZ l w)).length = w := by
  unfold hit
  rw [Bool.and_eq_true, Bool.and_eq_true, decide_eq_true_eq]

theorem hit_1 (l : Bs) (hl : 1 ≤ l.length) : hit l 1 = true ↔ by' l 0 < 128 := by
  have hb := by_lt l 0
  rw [hit_iff, numZ_1]
  obtain ⟨r, hr⟩ : ∃ r : Int, r = (by' l 0 : Int) := ⟨_, rfl⟩
  rw [← hr]
  rcases seqZ_class r with ⟨a, e⟩ | ⟨a, b, e⟩ | ⟨a, b, e⟩ | ⟨a, e⟩ <;> rw [e]
  · rw [begZ_1]
    refine ⟨fun h => by omega, fun h => ⟨mayB_t (by omega), ⟨hl, hr.symm⟩, rfl⟩⟩
  · exact ⟨fun h => absurd h.2.2 (by simp), fun h => by omega⟩
  · exact ⟨fun h => absurd h.2.2 (by simp), fun h => by omega⟩
  · exact ⟨fun h => absurd h.2.2 (by simp), fun h => by omega⟩

theorem hit_2 (l : Bs) (hl : 2 ≤ l.length) : hit l 2 = true ↔ Ok2 l.length (by' l 0) (by' l 1) := by
  have hb := by_lt l 0
  have hb1 := by_lt l 1
  rw [hit_iff, numZ_2]
  obtain ⟨r, hr⟩ : ∃ r : Int, r = ((by' l 0 : Int) - 192) * 64 + (by' l 1 : Int) % 64 := ⟨_, rfl⟩
  rw [← hr]
  unfold Ok2
  rcases seqZ_class r with ⟨a, e⟩ | ⟨a, b, e⟩ | ⟨a, b, e⟩ | ⟨a, e⟩ <;> rw [e]
  · exact ⟨fun h => absurd h.2.2 (by simp), fun h => by omega⟩
  · rw [begZ_2]
    refine ⟨fun ⟨_, h, _⟩ => by omega, fun h => ⟨mayB_t (by omega), by omega, rfl⟩⟩
  · exact ⟨fun h => absurd h.2.2 (by simp), fun h => by omega⟩
  · exact ⟨fun h => absurd h.2.2 (by simp), fun h => by omega⟩

theorem hit_3 (l : Bs) (hl : 3 ≤ l.length) : hit l 3 = true ↔ Ok3 l.length (by' l 0) (by' l 1) (by' l 2) := by
  have hb := by_lt l 0
  have hb1 := by_lt l 1
  have hb2 := by_lt l 2
  rw [hit_iff, numZ_3]
  obtain ⟨r, hr⟩ : ∃ r : Int, r = (((by' l 0 : Int) - 224) * 64 + (by' l 1 : Int) % 64) * 64 + (by' l 2 : Int) % 64 := ⟨_, rfl⟩
  rw [← hr]
  unfold Ok3 n3
  rcases seqZ_class r with ⟨a, e⟩ | ⟨a, b, e⟩ | ⟨a, b, e⟩ | ⟨a, e⟩ <;> rw [e]
  · exact ⟨fun h => absurd h.2.2 (by simp), fun h => by omega⟩
  · exact ⟨fun h => absurd h.2.2 (by simp), fun h => by omega⟩
  · rw [begZ_3]
    refine ⟨fun ⟨hm, h, _⟩ => ?_, fun h => ⟨mayB_t (by omega), by omega, rfl⟩⟩
    have hm := of_decide_eq_true hm
    omega
  · exact ⟨fun h => absurd h.2.2 (by simp), fun h => by omega⟩

theorem hit_4 (l : Bs) (hl : 4 ≤ l.length) : hit l 4 = true ↔ Ok4 l.length (by' l 0) (by' l 1) (by' l 2) (by' l 3) := by
  have hb := by_lt l 0
  have hb1 := by_lt l 1
  have hb2 := by_lt l 2
  have hb3 := by_lt l 3
  rw [hit_iff, numZ_4]
  obtain ⟨r, hr⟩ : ∃ r : Int, r = ((((by' l 0 : Int) - 240) * 64 + (by' l 1 : Int) % 64) * 64 + (by' l 2 : Int) % 64) * 64 + (by' l 3 : Int) % 64 := ⟨_, rfl⟩
  rw [← hr]
  unfold Ok4 n4
  rcases seqZ_class r with ⟨a, e⟩ | ⟨a, b, e⟩ | ⟨a, b, e⟩ | ⟨a, e⟩ <;> rw [e]
  · exact ⟨fun h => absurd h.2.2 (by simp), fun h => by omega⟩
  · exact ⟨fun h => absurd h.2.2 (by simp), fun h => by omega⟩
  · exact ⟨fun h => absurd h.2.2 (by simp), fun h => by omega⟩
  · rw [begZ_4]
    refine ⟨fun ⟨hm, h, _⟩ => ?_, fun h => ⟨mayB_t (by omega), by omega, rfl⟩⟩
    have hm := of_decide_eq_true hm
    omega

/-- The first character by the numbers that its bytes say: just where it is right, and of its width. -/
theorem hit_dec (l : Bs) (w : Nat) (h1 : 1 ≤ w) (h4 : w ≤ 4) (hw : w ≤ l.length) :
    hit l w = (rightR (Lib.decodeL l).1 (Lib.decodeL l).2 && decide (w = (Lib.decodeL l).2)) ∧ (hit l w = true → numZ l w = ((Lib.decodeL l).1 : Int)) := by
  have key : ∀ (P : Prop), (hit l w = true ↔ P) → ∀ b : Bool, (b = true ↔ P) → hit l w = b := by
    intro P h b hb
    cases hh : hit l w <;> cases b <;> simp_all
  have hb := by_lt l 0
  have hr : ∀ (r n : Nat), 2 ≤ n → rightR (r : Int) n = true := by
    intro r n hn
    unfold rightR
    have : (n == 1) = false := by simp; omega
    simp [this]
  have h128 : ∀ r : Nat, r < 128 → rightR (r : Int) 1 = true := fun r h => rightR_ne (by omega) 1
  have hbad : rightR ((65533 : Nat) : Int) 1 = false := rfl
  rcases dec_cases l with ⟨a, h⟩ | ⟨a, h⟩ | ⟨a, h⟩ | ⟨a, h⟩ | ⟨a0, a2, a3, a4, h⟩ <;> rw [h] <;> simp only
  · rw [h128 _ a]
    obtain rfl | rfl | rfl | rfl : w = 1 ∨ w = 2 ∨ w = 3 ∨ w = 4 := by omega
    · exact ⟨key _ (hit_1 l hw) _ (by simp [a]), fun _ => rfl⟩
    · have := Bool.eq_false_iff.2 fun e => absurd ((hit_2 l hw).1 e).1 (by omega)
      rw [this]; exact ⟨rfl, fun h => by cases h⟩
    · have := Bool.eq_false_iff.2 fun e => absurd ((hit_3 l hw).1 e).1 (by omega)
      rw [this]; exact ⟨rfl, fun h => by cases h⟩
    · have := Bool.eq_false_iff.2 fun e => absurd ((hit_4 l hw).1 e).1 (by omega)
      rw [this]; exact ⟨rfl, fun h => by cases h⟩
  · rw [hr _ 2 (by omega)]
    have ha := a.1
    have ha2 := a.2.1
    obtain rfl | rfl | rfl | rfl : w = 1 ∨ w = 2 ∨ w = 3 ∨ w = 4 := by omega
    · have := Bool.eq_false_iff.2 fun e => absurd ((hit_1 l hw).1 e) (by omega)
      rw [this]; exact ⟨rfl, fun h => by cases h⟩
    · refine ⟨key _ (hit_2 l hw) _ (by simp [a]), fun _ => ?_⟩
      obtain ⟨_, _, _, _, _⟩ := a
      rw [numZ_2]; unfold n2; omega
    · have := Bool.eq_false_iff.2 fun e => absurd ((hit_3 l hw).1 e).1 (by omega)
      rw [this]; exact ⟨rfl, fun h => by cases h⟩
    · have := Bool.eq_false_iff.2 fun e => absurd ((hit_4 l hw).1 e).1 (by omega)
      rw [this]; exact ⟨rfl, fun h => by cases h⟩
  · rw [hr _ 3 (by omega)]
    have ha := a.1
    have ha2 := a.2.1
    obtain rfl | rfl | rfl | rfl : w = 1 ∨ w = 2 ∨ w = 3 ∨ w = 4 := by omega
    · have := Bool.eq_false_iff.2 fun e => absurd ((hit_1 l hw).1 e) (by omega)
      rw [this]; exact ⟨rfl, fun h => by cases h⟩
    · have := Bool.eq_false_iff.2 fun e => absurd ((hit_2 l hw).1 e).2.1 (by omega)
      rw [this]; exact ⟨rfl, fun h => by cases h⟩
    · refine ⟨key _ (hit_3 l hw) _ (by simp [a]), fun _ => ?_⟩
      obtain ⟨_, _, _, _, _, _, _, _, _⟩ := a
      rw [numZ_3]; unfold n3 at *; omega
    · have := Bool.eq_false_iff.2 fun e => absurd ((hit_4 l hw).1 e).1 (by omega)
      rw [this]; exact ⟨rfl, fun h => by cases h⟩
  · rw [hr _ 4 (by omega)]
    have ha := a.1
    have ha2 := a.2.1
    obtain rfl | rfl | rfl | rfl : w = 1 ∨ w = 2 ∨ w = 3 ∨ w = 4 := by omega
    · have := Bool.eq_false_iff.2 fun e => absurd ((hit_1 l hw).1 e) (by omega)
      rw [this]; exact ⟨rfl, fun h => by cases h⟩
    · have := Bool.eq_false_iff.2 fun e => absurd ((hit_2 l hw).1 e).2.1 (by omega)
      rw [this]; exact ⟨rfl, fun h => by cases h⟩
    · have := Bool.eq_false_iff.2 fun e => absurd ((hit_3 l hw).1 e).2.1 (by omega)
      rw [this]; exact ⟨rfl, fun h => by cases h⟩
    · refine ⟨key _ (hit_4 l hw) _ (by simp [a]), fun _ => ?_⟩
      obtain ⟨_, _, _, _, _, _, _, _, _, _, _⟩ := a
      rw [numZ_4]; unfold n4 at *; omega
  · rw [hbad]
    have : hit l w = false := by
      refine Bool.eq_false_iff.2 fun e => ?_
      obtain rfl | rfl | rfl | rfl : w = 1 ∨ w = 2 ∨ w = 3 ∨ w = 4 := by omega
      · have := (hit_1 l hw).1 e; omega
      · exact a2 ((hit_2 l hw).1 e)
      · exact a3 ((hit_3 l hw).1 e)
      · exact a4 ((hit_4 l hw).1 e)
    rw [this]; exact ⟨rfl, fun h => by cases h⟩

theorem seqZ_le4 (r : Int) : (seqZ r).length ≤ 4 := by
  rcases seqZ_class r with ⟨_, e⟩ | ⟨_, _, e⟩ | ⟨_, _, e⟩ | ⟨_, e⟩ <;> rw [e] <;> simp

set_option maxHeartbeats 400000 in
theorem reffirst_empty (s : ByteArray) (hs : s.size = 0) (w : World) :
    Calls Tryd.prog 57 #[.string s] w fun e w' => e = .returned (.tuple #[.int .i32 0, .int .i64 0, .bool false]) ∧ Below w.heap.size w w' := by
  go_enter Tryd.func57, Tryd.ntmps57
  go_wp2
  go_ret3
  exact ⟨rfl, Below.refl _ _⟩

set_option maxHeartbeats 2000000 in
theorem reffirst_some (s : ByteArray) (hs : s.size ≤ 140737488351232) (r0 : Int) (n0 : Nat) (h0 : s.size ≠ 0) (hr0 : ((Lib.decodeL (bs s)).1 : Int) = r0) (hn0 : (Lib.decodeL (bs s)).2 = n0) (w : World) :
    Calls Tryd.prog 57 #[.string s] w fun e w' => e = .returned (.tuple #[.int .i32 r0, .int .i64 n0, .bool (rightR r0 n0)]) ∧ Below w.heap.size w w' := by
  have hne : ((s.size : Int) == 0) = false := beq_eq_false_iff_ne.2 (by omega)
  have hp : 0 < s.size := by omega
  have hd : ∀ w, 1 ≤ w → w ≤ 4 → w ≤ s.size → hit (bs s) w = (rightR r0 n0 && decide (w = n0)) ∧ (hit (bs s) w = true → numZ (bs s) w = r0) := by
    intro w h1 h4 hw
    have := hit_dec (bs s) w h1 h4 (by rw [← size_bs]; exact hw)
    rw [hr0, hn0] at this
    exact this
  have hnb := wid_bounds (bs s)
  have hnl := wid_le (bs s) (bs_ne h0)
  rw [hn0] at hnb hnl
  rw [← size_bs] at hnl
  have HD := Lib.hid hd
  clear hd hr0 hn0 h0
  go_enter Tryd.func57, Tryd.ntmps57
  go_wp2
  go_loopw [5] (fun i wr => ∃ k : Nat, 1 ≤ k ∧ k ≤ 5 ∧ k ≤ s.size + 1 ∧ i = .int .i64 k ∧ Hid (∀ j, 1 ≤ j → j < k → hit (bs s) j = false) ∧ Below w.heap.size w wr) (fun i _ => 5 - (intOf i).toNat)
  case atStart => exact ⟨1, by omega, by omega, by omega, rfl, (show Hid _ from fun j h1 h2 => absurd h2 (by omega)), Below.refl _ _⟩
  case round =>
    obtain ⟨k, hk1, hk5, hkn, rfl, hall, hb⟩ := hrel
    by_cases hin : k ≤ 4 ∧ k ≤ s.size
    · obtain ⟨h4, hks⟩ := hin
      have hdk := HD.out k hk1 h4 hks
      have hN := fun w => number_any s k hk1 h4 hks w
      have hhit : hit (bs s) k = hit (bs s) k := rfl
      have hh := hit_iff (bs s) k
      obtain ⟨r, hr⟩ : ∃ r, r = numZ (bs s) k := ⟨_, rfl⟩
      rw [← hr] at hN hh hdk
      have HN := Lib.hid hN
      clear hN hhit hr
      have hnext : hit (bs s) k = false → Hid (∀ j, 1 ≤ j → j < k + 1 → hit (bs s) j = false) := fun h j h1 h2 => by
        by_cases e : j = k
        · subst e; exact h
        · exact hall.out j h1 (by omega)
      have hrl := seqZ_le4 r
      by_cases hm : mayB r = true
      · have hmr := of_decide_eq_true hm
        by_cases hbz : begZ (bs s) (seqZ r) = true
        · by_cases hl : (seqZ r).length = k
          · have hhk : hit (bs s) k = true := hh.2 ⟨hm, hbz, hl⟩
            have e1 := hdk.2 hhk
            have e2 := hdk.1
            rw [hhk] at e2
            have hright : rightR r0 n0 = true := by
              cases h : rightR r0 n0
              · rw [h, Bool.false_and] at e2; cases e2
              · rfl
            have hkn0 : k = n0 := by rw [hright, Bool.true_and] at e2; exact of_decide_eq_true e2.symm
            have hle : (((seqZ r).length : Int) == (k : Int)) = true := by simp [hl]
            have HE1 := Lib.hid e1
            have HR := Lib.hid hright
            have HK := Lib.hid hkn0
            clear hh hdk hnext hl e1 e2 hright hkn0 hhk
            go_wp2_with (first | (go_at_call 60; (with_reducible refine (HN.out _).mono ?_); rintro e w1 ⟨rfl, hb1⟩) | (go_at_call 61; (with_reducible refine (may_any _ _).mono ?_); rintro e w' ⟨rfl, rfl⟩) | (go_at_call 63; (with_reducible refine (sequence_any _ _ hmr.1 hmr.2.1).mono ?_); rintro e w' ⟨rfl, rfl⟩) | (go_at_call 62; (with_reducible refine (refbegins_any s hs _ _ (seqZ r) _ (reads_new _ _ _ _) hrl).mono ?_); rintro e w2 ⟨rfl, hb2⟩))
            go_ret3
            rw [HE1.out, HR.out, ← HK.out]
            exact ⟨rfl, al (nx (al (nx hb hb1) _) hb2) _⟩
          · have hhk : hit (bs s) k = false := Bool.eq_false_iff.2 fun e => hl (hh.1 e).2.2
            have hle : (((seqZ r).length : Int) == (k : Int)) = false := beq_eq_false_iff_ne.2 (by omega)
            have HX := hnext hhk
            clear hh hdk hnext hl hhk
            go_wp2_with (first | (go_at_call 60; (with_reducible refine (HN.out _).mono ?_); rintro e w1 ⟨rfl, hb1⟩) | (go_at_call 61; (with_reducible refine (may_any _ _).mono ?_); rintro e w' ⟨rfl, rfl⟩) | (go_at_call 63; (with_reducible refine (sequence_any _ _ hmr.1 hmr.2.1).mono ?_); rintro e w' ⟨rfl, rfl⟩) | (go_at_call 62; (with_reducible refine (refbegins_any s hs _ _ (seqZ r) _ (reads_new _ _ _ _) hrl).mono ?_); rintro e w2 ⟨rfl, hb2⟩))
            go_roundw
            case rel => exact ⟨k + 1, by omega, by omega, by omega, by go_num, HX, al (nx (al (nx hb hb1) _) hb2) _⟩
            case measure => simp [intOf]; omega
        · have hbz2 : begZ (bs s) (seqZ r) = false := Bool.eq_false_iff.2 hbz
          have HX := hnext (Bool.eq_false_iff.2 fun e => hbz (hh.1 e).2.1)
          clear hh hdk hnext hbz
          go_wp2_with (first | (go_at_call 60; (with_reducible refine (HN.out _).mono ?_); rintro e w1 ⟨rfl, hb1⟩) | (go_at_call 61; (with_reducible refine (may_any _ _).mono ?_); rintro e w' ⟨rfl, rfl⟩) | (go_at_call 63; (with_reducible refine (sequence_any _ _ hmr.1 hmr.2.1).mono ?_); rintro e w' ⟨rfl, rfl⟩) | (go_at_call 62; (with_reducible refine (refbegins_any s hs _ _ (seqZ r) _ (reads_new _ _ _ _) hrl).mono ?_); rintro e w2 ⟨rfl, hb2⟩))
          go_roundw
          case rel => exact ⟨k + 1, by omega, by omega, by omega, by go_num, HX, nx (al (nx hb hb1) _) hb2⟩
          case measure => simp [intOf]; omega
      · have hm2 : mayB r = false := Bool.eq_false_iff.2 hm
        have HX := hnext (Bool.eq_false_iff.2 fun e => hm (hh.1 e).1)
        clear hh hdk hnext hm
        go_wp2_with (first | (go_at_call 60; (with_reducible refine (HN.out _).mono ?_); rintro e w1 ⟨rfl, hb1⟩) | (go_at_call 61; (with_reducible refine (may_any _ _).mono ?_); rintro e w' ⟨rfl, rfl⟩))
        go_roundw
        case rel => exact ⟨k + 1, by omega, by omega, by omega, by go_num, HX, nx hb hb1⟩
        case measure => simp [intOf]; omega
    · have hwrong : rightR r0 n0 = false := by
        cases h : rightR r0 n0
        · rfl
        · have e1 := (HD.out n0 (by omega) (by omega) (by omega)).1
          rw [h, Bool.true_and, hall.out n0 (by omega) (by omega)] at e1
          simp at e1
      have hw := rightR_imp hwrong
      have HW := Lib.hid hw
      have HF := Lib.hid hwrong
      clear hwrong hw
      by_cases h4 : k ≤ 4
      · have hks : ¬ k ≤ s.size := by omega
        clear hin
        go_wp2
        go_ret3
        rw [HF.out, HW.out.1, HW.out.2]
        exact ⟨rfl, hb⟩
      · clear hin
        go_wp2
        go_ret3
        rw [HF.out, HW.out.1, HW.out.2]
        exact ⟨rfl, hb⟩
end Go.Proofs.YtkknmbkfiiidmaaDoor
