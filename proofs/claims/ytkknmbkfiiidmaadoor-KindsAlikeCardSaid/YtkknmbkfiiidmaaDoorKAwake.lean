/-
  The kinds' examples that the laws ask (awake), and the walk of the law KindsRunes.
-/
import Derived.Test.YtkknmbkfiiidmaaDoorBackWalk
import Derived.Test.YtkknmbkfiiidmaaDoorRefFold
namespace Go.Proofs.YtkknmbkfiiidmaaDoor
open Go.RowKit

theorem ka_next (w : World) (hT : Tabs w) : Calls Tryd.prog 23 #[.string ⟨#[97, 98, 32, 99, 100]⟩, .int .i64 0] w fun e w' => e = .returned (.int .i64 3) ∧ Below w.heap.size w w' := by
  have h := next_any ⟨#[97, 98, 32, 99, 100]⟩ (by decide) 0 w hT
  have e1 : nextV (bs ⟨#[97, 98, 32, 99, 100]⟩) (intoM (bs ⟨#[97, 98, 32, 99, 100]⟩) 0) = 3 := by decide +kernel
  rw [e1] at h
  exact h
theorem ka_back (w : World) (hT : Tabs w) : Calls Tryd.prog 25 #[.string ⟨#[97, 98, 32, 99, 100]⟩, .int .i64 5] w fun e w' => e = .returned (.int .i64 3) ∧ Below w.heap.size w w' := by
  have h := kback_any ⟨#[97, 98, 32, 99, 100]⟩ (by decide) 5 w hT
  have e1 : backV (bs ⟨#[97, 98, 32, 99, 100]⟩) (intoM (bs ⟨#[97, 98, 32, 99, 100]⟩) 5) = 3 := by decide +kernel
  rw [e1] at h
  exact h
theorem ka_cols (w : World) : Calls Tryd.prog 27 #[.string ⟨#[9]⟩, .int .i64 3, .int .i64 8] w fun e w' => e = .returned (.int .i64 5) ∧ Below w.heap.size w w' := by
  have h := columns_any ⟨#[9]⟩ (by decide) 3 8 w
  have e1 : colsV (bs ⟨#[9]⟩) 3 8 = 5 := by decide +kernel
  rw [e1] at h
  exact h

set_option maxHeartbeats 2000000 in
theorem kawake_any (w : World) (hT : Tabs w) : Calls Tryd.prog 22 #[] w fun e w' => e = .returned (.bool true) ∧ Below w.heap.size w w' := by
  have HT := Lib.hid hT
  have H1 := Lib.hid (fun w => fold_any 65 w)
  have H2 := Lib.hid (fun w => blank_any 32 w)
  have H3 := Lib.hid (fun w => word_any 95 w)
  have H4 := Lib.hid (fun w => word_any 32 w)
  have H5 := Lib.hid (fun w => ends_any 8232 w)
  have H6 := Lib.hid (fun w => width_any 19990 w)
  rw [show foldZ 65 = 97 by decide +kernel] at H1
  rw [show blankB 32 = true by decide +kernel] at H2
  rw [show wordB 95 = true by decide +kernel] at H3
  rw [show wordB 32 = false by decide +kernel] at H4
  rw [show endsB 8232 = true by decide +kernel] at H5
  rw [show widthN 19990 = 2 by decide +kernel] at H6
  have H7 := Lib.hid (fun w hT => ka_next w hT)
  have H8 := Lib.hid (fun w hT => ka_back w hT)
  have H9 := Lib.hid (fun w => ka_cols w)
  clear hT
  go_enter Tryd.func22, Tryd.ntmps22
  go_wp2_with (first
    | (go_at_call 20; (with_reducible refine (H1.out _).mono ?_); rintro e w1 ⟨rfl, rfl⟩)
    | (go_at_call 12; (with_reducible refine (H2.out _).mono ?_); rintro e w1 ⟨rfl, rfl⟩)
    | (go_at_call 14; (with_reducible refine (H3.out _).mono ?_); rintro e w1 ⟨rfl, rfl⟩)
    | (go_at_call 14; (with_reducible refine (H4.out _).mono ?_); rintro e w1 ⟨rfl, rfl⟩)
    | (go_at_call 16; (with_reducible refine (H5.out _).mono ?_); rintro e w1 ⟨rfl, rfl⟩)
    | (go_at_call 18; (with_reducible refine (H6.out _).mono ?_); rintro e w1 ⟨rfl, rfl⟩)
    | (go_at_call 23; (with_reducible refine (H7.out _ HT.out).mono ?_); rintro e w1 ⟨rfl, hb1⟩)
    | (go_at_call 25; (with_reducible refine (H8.out _ (HT.out.below hb1 (Nat.le_refl _))).mono ?_); rintro e w2 ⟨rfl, hb2⟩; have hb12 := nx hb1 hb2)
    | (go_at_call 27; (with_reducible refine (H9.out _).mono ?_); rintro e w3 ⟨rfl, hb3⟩; have hb13 := nx hb12 hb3))
  go_ret
  exact ⟨rfl, hb13⟩

set_option maxHeartbeats 4000000 in
theorem kindsRunes_any (r : Int) (hr : -2147483648 ≤ r ∧ r ≤ 2147483647) (w : World) (hT : Tabs w) : Calls Tryd.prog 3 #[.int .i32 r] w fun e w' => e = .returned (.bool true) ∧ Below w.heap.size w w' := by
  have HT := Lib.hid hT
  have HAW := Lib.hid (fun w hT => kawake_any w hT)
  obtain ⟨hr1, hr2⟩ := hr
  clear hT
  go_enter Tryd.func3, Tryd.ntmps3
  go_wp2_with fail
  go_loopw [0, 3] (fun x i wr => ∃ (z : Int) (k : Nat), k ≤ 3 ∧ i = .int .i64 (k : Nat) ∧ x = .int .i32 z ∧ -2147483648 ≤ z ∧ z ≤ 2147483647 ∧ Below w.heap.size w wr) (fun _ i _ => 3 - (intOf i).toNat)
  case atStart => exact ⟨r, 0, by omega, rfl, rfl, hr1, hr2, Below.refl _ _⟩
  case round =>
    obtain ⟨z, k, hk, rfl, rfl, hz1, hz2, hb⟩ := hrel
    by_cases hlt : k < 3
    · have HB := Lib.hid (fun w => blank_any z w)
      have HB' := Lib.hid (fun w => refblank_any z w)
      have HW := Lib.hid (fun w => word_any z w)
      have HW' := Lib.hid (fun w => refword_any z w)
      have HE := Lib.hid (fun w => ends_any z w)
      have HE' := Lib.hid (fun w => refends_any z w)
      have HD := Lib.hid (fun w => width_any z w)
      have HD' := Lib.hid (fun w => refwidth_any z w)
      have HF := Lib.hid (fun w => fold_any z w)
      have HF' := Lib.hid (fun w => reffold_any z hz1 hz2 w)
      have hki : (k : Int) < 3 := by omega
      by_cases hmax : z = 2147483647
      · have hm : (z == 2147483647) = true := beq_iff_eq.2 hmax
        clear hmax
        go_wp2_with (first
          | (go_at_call 12; (with_reducible refine (HB.out _).mono ?_); rintro e w1 ⟨rfl, rfl⟩)
          | (go_at_call 13; (with_reducible refine (HB'.out _).mono ?_); rintro e w2 ⟨rfl, hb12⟩)
          | (go_at_call 14; (with_reducible refine (HW.out _).mono ?_); rintro e w1 ⟨rfl, rfl⟩)
          | (go_at_call 15; (with_reducible refine (HW'.out _).mono ?_); rintro e w3 ⟨rfl, hb3⟩; have hb13 := nx hb12 hb3)
          | (go_at_call 16; (with_reducible refine (HE.out _).mono ?_); rintro e w1 ⟨rfl, rfl⟩)
          | (go_at_call 17; (with_reducible refine (HE'.out _).mono ?_); rintro e w4 ⟨rfl, hb4⟩; have hb14 := nx hb13 hb4)
          | (go_at_call 18; (with_reducible refine (HD.out _).mono ?_); rintro e w1 ⟨rfl, rfl⟩)
          | (go_at_call 19; (with_reducible refine (HD'.out _).mono ?_); rintro e w5 ⟨rfl, hb5⟩; have hb15 := nx hb14 hb5)
          | (go_at_call 20; (with_reducible refine (HF.out _).mono ?_); rintro e w1 ⟨rfl, rfl⟩)
          | (go_at_call 21; (with_reducible refine (HF'.out _).mono ?_); rintro e w6 ⟨rfl, hb6⟩; have hb16 := nx hb15 hb6)
          | (go_at_call 22; (with_reducible refine (HAW.out _ (HT.out.below (hb.trans (hb16.mono hb.size)) (Nat.le_refl _))).mono ?_); rintro e w7 ⟨rfl, hb7⟩; have hb17 := nx hb16 hb7))
        go_ret
        exact ⟨rfl, hb.trans (hb17.mono hb.size)⟩
      · have hm : (z == 2147483647) = false := beq_eq_false_iff_ne.2 hmax
        have hwr : IntKind.i32.wrap (z + 1) = z + 1 := by rw [IntKind.wrap_i32]; omega
        clear hmax
        go_wp2_with (first
          | (go_at_call 12; (with_reducible refine (HB.out _).mono ?_); rintro e w1 ⟨rfl, rfl⟩)
          | (go_at_call 13; (with_reducible refine (HB'.out _).mono ?_); rintro e w2 ⟨rfl, hb12⟩)
          | (go_at_call 14; (with_reducible refine (HW.out _).mono ?_); rintro e w1 ⟨rfl, rfl⟩)
          | (go_at_call 15; (with_reducible refine (HW'.out _).mono ?_); rintro e w3 ⟨rfl, hb3⟩; have hb13 := nx hb12 hb3)
          | (go_at_call 16; (with_reducible refine (HE.out _).mono ?_); rintro e w1 ⟨rfl, rfl⟩)
          | (go_at_call 17; (with_reducible refine (HE'.out _).mono ?_); rintro e w4 ⟨rfl, hb4⟩; have hb14 := nx hb13 hb4)
          | (go_at_call 18; (with_reducible refine (HD.out _).mono ?_); rintro e w1 ⟨rfl, rfl⟩)
          | (go_at_call 19; (with_reducible refine (HD'.out _).mono ?_); rintro e w5 ⟨rfl, hb5⟩; have hb15 := nx hb14 hb5)
          | (go_at_call 20; (with_reducible refine (HF.out _).mono ?_); rintro e w1 ⟨rfl, rfl⟩)
          | (go_at_call 21; (with_reducible refine (HF'.out _).mono ?_); rintro e w6 ⟨rfl, hb6⟩; have hb16 := nx hb15 hb6)
          | fail)
        exact ⟨⟨z + 1, k + 1, by omega, by go_num, rfl, by omega, by have := hm; simp at this; omega, hb.trans (hb16.mono hb.size)⟩, by simp [intOf]; omega⟩
    · have hki : (3 : Int) ≤ (k : Int) := by omega
      go_wp2_with (first
        | (go_at_call 22; (with_reducible refine (HAW.out _ (HT.out.below hb (Nat.le_refl _))).mono ?_); rintro e w7 ⟨rfl, hb7⟩))
      go_ret
      exact ⟨rfl, hb.trans (hb7.mono hb.size)⟩
end Go.Proofs.YtkknmbkfiiidmaaDoor
