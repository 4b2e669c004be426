/-
  The walk of LinesEnds.
-/
import Derived.Test.YtebmjmohhpkonaaDoorLRefEnd
import Derived.Test.YtebmjmohhpkonaaDoorLWorks
namespace Go.Proofs.YtebmjmohhpkonaaDoor
open Go.RowKit

/-- The program's End and the document's at a place: neither ends a line there, or both do, as wide. -/
theorem ends_both (s : ByteArray) (hs : s.size ≤ 140737488351232) (c : Int) :
    (∃ k : Nat, (∀ w, Tabs w → Calls Tryd.prog 11 #[.string s, .int .i64 c] w fun e w' => e = .returned (.tuple #[.int .i64 0, .bool false]) ∧ Below w.heap.size w w') ∧
      ∀ w, Calls Tryd.prog 12 #[.string s, .int .i64 c] w fun e w' => e = .returned (.tuple #[.int .i64 (k : Nat), .bool false]) ∧ Below w.heap.size w w') ∨
    (∃ k : Nat, (∀ w, Tabs w → Calls Tryd.prog 11 #[.string s, .int .i64 c] w fun e w' => e = .returned (.tuple #[.int .i64 (k : Nat), .bool true]) ∧ Below w.heap.size w w') ∧
      ∀ w, Calls Tryd.prog 12 #[.string s, .int .i64 c] w fun e w' => e = .returned (.tuple #[.int .i64 (k : Nat), .bool true]) ∧ Below w.heap.size w w') := by
  by_cases h : endZ (bs s) c = 0
  · refine .inl ⟨endRZ (bs s) c, fun w hT => ?_, fun w => ?_⟩
    · have := lend_any s hs c w hT
      rw [h] at this
      exact this
    · have := refend_any s hs c w
      rw [h] at this
      exact this
  · have h0 : ¬ c < 0 := fun e => h (endZ_neg _ _ e)
    have h1 : c < (bs s).length := by
      rcases Int.lt_or_le c ((bs s).length : Int) with h1 | h1
      · exact h1
      · exact absurd (endZ_out _ _ h1) h
    obtain ⟨i, rfl⟩ : ∃ i : Nat, c = i := ⟨c.toNat, by omega⟩
    have hz : nzB (endZ (bs s) (i : Nat)) = true := bne_iff_ne.2 h
    have he : endRZ (bs s) (i : Nat) = endZ (bs s) (i : Nat) := by rw [endRZ_nat (by omega), endZ_nat]; rw [endZ_nat] at h; exact endR_yes h
    refine .inr ⟨endZ (bs s) (i : Nat), fun w hT => ?_, fun w => ?_⟩
    · have := lend_any s hs (i : Nat) w hT
      rw [hz] at this
      exact this
    · have := refend_any s hs (i : Nat) w
      rw [hz, he] at this
      exact this

set_option maxHeartbeats 4000000 in
theorem linesEnds_any (s : ByteArray) (hs : s.size ≤ 140737488351232) (c : Int) (w : World) (hT : Tabs w) :
    Calls Tryd.prog 3 #[.string s, .int .i64 c] w fun e w' => e = .returned (.bool true) ∧ Below w.heap.size w w' := by
  have HT := Lib.hid hT
  have HW := Lib.hid works_any
  clear hT
  rcases ends_both s hs c with ⟨k, H1, H2⟩ | ⟨k, H1, H2⟩
  · have H1 := Lib.hid H1
    have H2 := Lib.hid H2
    go_enter Tryd.func3, Tryd.ntmps3
    have hb : Below w.heap.size w w := Below.refl _ _
    go_wp2_with (first
      | (go_at_call 11; (with_reducible refine (H1.out _ (HT.out.below hb (Nat.le_refl _))).mono ?_); rintro e w' ⟨rfl, hb'⟩; have hb := nx hb hb'; clear hb')
      | (go_at_call 12; (with_reducible refine (H2.out _).mono ?_); rintro e w' ⟨rfl, hb'⟩; have hb := nx hb hb'; clear hb'))
    go_loopw [9] (fun i wr => ∃ z : Int, -2 ≤ z ∧ z ≤ 300 ∧ i = .int .i64 z ∧ Below w.heap.size w wr) (fun i _ => (300 - intOf i).toNat)
    case atStart => exact ⟨-2, by omega, by omega, rfl, hb⟩
    case round =>
      obtain ⟨z, hz1, hz2, rfl, hbr⟩ := hrel
      clear hb H1 H2
      have hb := hbr
      by_cases h1 : z < (s.size : Int) + 3
      · by_cases h2 : z < 300
        · rcases ends_both s hs z with ⟨k, H1, H2⟩ | ⟨k, H1, H2⟩
          · have H1 := Lib.hid H1
            have H2 := Lib.hid H2
            go_wp2_with (first
              | (go_at_call 11; (with_reducible refine (H1.out _ (HT.out.below hb (Nat.le_refl _))).mono ?_); rintro e w' ⟨rfl, hb'⟩; have hb := nx hb hb'; clear hb')
              | (go_at_call 12; (with_reducible refine (H2.out _).mono ?_); rintro e w' ⟨rfl, hb'⟩; have hb := nx hb hb'; clear hb'))
            exact ⟨⟨z + 1, by omega, by omega, rfl, hb⟩, by simp [intOf]; omega⟩
          · have H1 := Lib.hid H1
            have H2 := Lib.hid H2
            have hkk : (((k : Nat) : Int) != (k : Int)) = false := by simp
            go_wp2_with (first
              | (go_at_call 11; (with_reducible refine (H1.out _ (HT.out.below hb (Nat.le_refl _))).mono ?_); rintro e w' ⟨rfl, hb'⟩; have hb := nx hb hb'; clear hb')
              | (go_at_call 12; (with_reducible refine (H2.out _).mono ?_); rintro e w' ⟨rfl, hb'⟩; have hb := nx hb hb'; clear hb'))
            exact ⟨⟨z + 1, by omega, by omega, rfl, hb⟩, by simp [intOf]; omega⟩
        · go_wp2_with (go_at_call 13; (with_reducible refine (HW.out _ (HT.out.below hb (Nat.le_refl _))).mono ?_); rintro e w' ⟨rfl, hb'⟩)
          go_ret
          exact ⟨rfl, nx hb hb'⟩
      · go_wp2_with (go_at_call 13; (with_reducible refine (HW.out _ (HT.out.below hb (Nat.le_refl _))).mono ?_); rintro e w' ⟨rfl, hb'⟩)
        go_ret
        exact ⟨rfl, nx hb hb'⟩
  · have H1 := Lib.hid H1
    have H2 := Lib.hid H2
    have hkk : (((k : Nat) : Int) != (k : Int)) = false := by simp
    go_enter Tryd.func3, Tryd.ntmps3
    have hb : Below w.heap.size w w := Below.refl _ _
    go_wp2_with (first
      | (go_at_call 11; (with_reducible refine (H1.out _ (HT.out.below hb (Nat.le_refl _))).mono ?_); rintro e w' ⟨rfl, hb'⟩; have hb := nx hb hb'; clear hb')
      | (go_at_call 12; (with_reducible refine (H2.out _).mono ?_); rintro e w' ⟨rfl, hb'⟩; have hb := nx hb hb'; clear hb'))
    go_loopw [9] (fun i wr => ∃ z : Int, -2 ≤ z ∧ z ≤ 300 ∧ i = .int .i64 z ∧ Below w.heap.size w wr) (fun i _ => (300 - intOf i).toNat)
    case atStart => exact ⟨-2, by omega, by omega, rfl, hb⟩
    case round =>
      obtain ⟨z, hz1, hz2, rfl, hbr⟩ := hrel
      clear hb H1 H2
      have hb := hbr
      by_cases h1 : z < (s.size : Int) + 3
      · by_cases h2 : z < 300
        · rcases ends_both s hs z with ⟨k, H1, H2⟩ | ⟨k, H1, H2⟩
          · have H1 := Lib.hid H1
            have H2 := Lib.hid H2
            go_wp2_with (first
              | (go_at_call 11; (with_reducible refine (H1.out _ (HT.out.below hb (Nat.le_refl _))).mono ?_); rintro e w' ⟨rfl, hb'⟩; have hb := nx hb hb'; clear hb')
              | (go_at_call 12; (with_reducible refine (H2.out _).mono ?_); rintro e w' ⟨rfl, hb'⟩; have hb := nx hb hb'; clear hb'))
            exact ⟨⟨z + 1, by omega, by omega, rfl, hb⟩, by simp [intOf]; omega⟩
          · have H1 := Lib.hid H1
            have H2 := Lib.hid H2
            have hkk : (((k : Nat) : Int) != (k : Int)) = false := by simp
            go_wp2_with (first
              | (go_at_call 11; (with_reducible refine (H1.out _ (HT.out.below hb (Nat.le_refl _))).mono ?_); rintro e w' ⟨rfl, hb'⟩; have hb := nx hb hb'; clear hb')
              | (go_at_call 12; (with_reducible refine (H2.out _).mono ?_); rintro e w' ⟨rfl, hb'⟩; have hb := nx hb hb'; clear hb'))
            exact ⟨⟨z + 1, by omega, by omega, rfl, hb⟩, by simp [intOf]; omega⟩
        · go_wp2_with (go_at_call 13; (with_reducible refine (HW.out _ (HT.out.below hb (Nat.le_refl _))).mono ?_); rintro e w' ⟨rfl, hb'⟩)
          go_ret
          exact ⟨rfl, nx hb hb'⟩
      · go_wp2_with (go_at_call 13; (with_reducible refine (HW.out _ (HT.out.below hb (Nat.le_refl _))).mono ?_); rintro e w' ⟨rfl, hb'⟩)
        go_ret
        exact ⟨rfl, nx hb hb'⟩
end Go.Proofs.YtebmjmohhpkonaaDoor
