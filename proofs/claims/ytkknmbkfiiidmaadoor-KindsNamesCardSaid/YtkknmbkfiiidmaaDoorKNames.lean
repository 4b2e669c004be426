/-
  The walk of the law KindsNames: the limit, and the chapter's examples.
-/
import Derived.Test.YtkknmbkfiiidmaaDoorAlike
namespace Go.Proofs.YtkknmbkfiiidmaaDoor
open Go.RowKit

theorem kn_like0 (w : World) (hT : Tabs w) : Calls Tryd.prog 32 #[.string ⟨#[255]⟩, .string ⟨#[255]⟩] w fun e w' => e = .returned (.bool true) ∧ Below w.heap.size w w' := by
  have h := alike_any ⟨#[255]⟩ ⟨#[255]⟩ (by decide) (by decide) w hT
  rw [show alikeB (bs ⟨#[255]⟩) (bs ⟨#[255]⟩) = true by decide +kernel] at h
  exact h
theorem kn_like1 (w : World) (hT : Tabs w) : Calls Tryd.prog 32 #[.string ⟨#[255]⟩, .string ⟨#[254]⟩] w fun e w' => e = .returned (.bool false) ∧ Below w.heap.size w w' := by
  have h := alike_any ⟨#[255]⟩ ⟨#[254]⟩ (by decide) (by decide) w hT
  rw [show alikeB (bs ⟨#[255]⟩) (bs ⟨#[254]⟩) = false by decide +kernel] at h
  exact h
theorem kn_like2 (w : World) (hT : Tabs w) : Calls Tryd.prog 32 #[.string ⟨#[255]⟩, .string ⟨#[239, 191, 189]⟩] w fun e w' => e = .returned (.bool false) ∧ Below w.heap.size w w' := by
  have h := alike_any ⟨#[255]⟩ ⟨#[239, 191, 189]⟩ (by decide) (by decide) w hT
  rw [show alikeB (bs ⟨#[255]⟩) (bs ⟨#[239, 191, 189]⟩) = false by decide +kernel] at h
  exact h
theorem kn_like3 (w : World) (hT : Tabs w) : Calls Tryd.prog 32 #[.string ⟨#[]⟩, .string ⟨#[97]⟩] w fun e w' => e = .returned (.bool false) ∧ Below w.heap.size w w' := by
  have h := alike_any ⟨#[]⟩ ⟨#[97]⟩ (by decide) (by decide) w hT
  rw [show alikeB (bs ⟨#[]⟩) (bs ⟨#[97]⟩) = false by decide +kernel] at h
  exact h
theorem kn_cols0 (w : World) : Calls Tryd.prog 27 #[.string ⟨#[9]⟩, .int .i64 (3), .int .i64 99] w fun e w' => e = .returned (.int .i64 13) ∧ Below w.heap.size w w' := by
  have h := columns_any ⟨#[9]⟩ (by decide) (3) 99 w
  rw [show colsV (bs ⟨#[9]⟩) (3) 99 = 13 by decide +kernel] at h
  exact h
theorem kn_cols1 (w : World) : Calls Tryd.prog 27 #[.string ⟨#[97]⟩, .int .i64 (-5), .int .i64 8] w fun e w' => e = .returned (.int .i64 1) ∧ Below w.heap.size w w' := by
  have h := columns_any ⟨#[97]⟩ (by decide) (-5) 8 w
  rw [show colsV (bs ⟨#[97]⟩) (-5) 8 = 1 by decide +kernel] at h
  exact h

set_option maxRecDepth 10000 in
set_option maxHeartbeats 4000000 in
theorem kindsNames_any (w : World) (hT : Tabs w) : Calls Tryd.prog 9 #[] w fun e w' => e = .returned (.bool true) ∧ Below w.heap.size w w' := by
  have HT := Lib.hid hT
  have HF0 := Lib.hid (fun w => fold_any 215 w)
  rw [show foldZ 215 = 215 by decide +kernel] at HF0
  have HF1 := Lib.hid (fun w => fold_any 304 w)
  rw [show foldZ 304 = 304 by decide +kernel] at HF1
  have HF2 := Lib.hid (fun w => fold_any 376 w)
  rw [show foldZ 376 = 255 by decide +kernel] at HF2
  have HF3 := Lib.hid (fun w => fold_any 962 w)
  rw [show foldZ 962 = 963 by decide +kernel] at HF3
  have HF4 := Lib.hid (fun w => fold_any 7838 w)
  rw [show foldZ 7838 = 223 by decide +kernel] at HF4
  have HF5 := Lib.hid (fun w => fold_any 66560 w)
  rw [show foldZ 66560 = 66600 by decide +kernel] at HF5
  have HW0 := Lib.hid (fun w => width_any 0 w)
  rw [show widthN 0 = 0 by decide +kernel] at HW0
  have HW1 := Lib.hid (fun w => width_any 769 w)
  rw [show widthN 769 = 0 by decide +kernel] at HW1
  have HW2 := Lib.hid (fun w => width_any 128512 w)
  rw [show widthN 128512 = 2 by decide +kernel] at HW2
  have HW3 := Lib.hid (fun w => width_any 65533 w)
  rw [show widthN 65533 = 1 by decide +kernel] at HW3
  have HW4 := Lib.hid (fun w => width_any (-1) w)
  rw [show widthN (-1) = 1 by decide +kernel] at HW4
  have HAW := Lib.hid (fun w hT => kawake_any w hT)
  have HL0 := Lib.hid (fun w hT => kn_like0 w hT)
  have HL1 := Lib.hid (fun w hT => kn_like1 w hT)
  have HL2 := Lib.hid (fun w hT => kn_like2 w hT)
  have HL3 := Lib.hid (fun w hT => kn_like3 w hT)
  have HC0 := Lib.hid (fun w => kn_cols0 w)
  have HC1 := Lib.hid (fun w => kn_cols1 w)
  clear hT
  go_enter Tryd.func9, Tryd.ntmps9
  go_wp2_with (first
    | (go_at_call 20; (with_reducible refine (HF0.out _).mono ?_); rintro e w0 ⟨rfl, rfl⟩)
    | (go_at_call 20; (with_reducible refine (HF1.out _).mono ?_); rintro e w0 ⟨rfl, rfl⟩)
    | (go_at_call 20; (with_reducible refine (HF2.out _).mono ?_); rintro e w0 ⟨rfl, rfl⟩)
    | (go_at_call 20; (with_reducible refine (HF3.out _).mono ?_); rintro e w0 ⟨rfl, rfl⟩)
    | (go_at_call 20; (with_reducible refine (HF4.out _).mono ?_); rintro e w0 ⟨rfl, rfl⟩)
    | (go_at_call 20; (with_reducible refine (HF5.out _).mono ?_); rintro e w0 ⟨rfl, rfl⟩)
    | (go_at_call 18; (with_reducible refine (HW0.out _).mono ?_); rintro e w0 ⟨rfl, rfl⟩)
    | (go_at_call 18; (with_reducible refine (HW1.out _).mono ?_); rintro e w0 ⟨rfl, rfl⟩)
    | (go_at_call 18; (with_reducible refine (HW2.out _).mono ?_); rintro e w0 ⟨rfl, rfl⟩)
    | (go_at_call 18; (with_reducible refine (HW3.out _).mono ?_); rintro e w0 ⟨rfl, rfl⟩)
    | (go_at_call 18; (with_reducible refine (HW4.out _).mono ?_); rintro e w0 ⟨rfl, rfl⟩)
    | (go_at_call 32; (with_reducible refine (HL0.out _ HT.out).mono ?_); rintro e w1 ⟨rfl, hc1⟩; have hb1 := hc1)
    | (go_at_call 32; (with_reducible refine (HL1.out _ (HT.out.below hb1 (Nat.le_refl _))).mono ?_); rintro e w2 ⟨rfl, hc2⟩; have hb2 := nx hb1 hc2)
    | (go_at_call 32; (with_reducible refine (HL2.out _ (HT.out.below hb2 (Nat.le_refl _))).mono ?_); rintro e w3 ⟨rfl, hc3⟩; have hb3 := nx hb2 hc3)
    | (go_at_call 32; (with_reducible refine (HL3.out _ (HT.out.below hb3 (Nat.le_refl _))).mono ?_); rintro e w4 ⟨rfl, hc4⟩; have hb4 := nx hb3 hc4)
    | (go_at_call 22; (with_reducible refine (HAW.out _ (HT.out.below hb4 (Nat.le_refl _))).mono ?_); rintro e w5 ⟨rfl, hc5⟩; have hb5 := nx hb4 hc5)
    | (go_at_call 27; (with_reducible refine (HC0.out _).mono ?_); rintro e w6 ⟨rfl, hc6⟩; have hb6 := nx hb5 hc6)
    | (go_at_call 27; (with_reducible refine (HC1.out _).mono ?_); rintro e w7 ⟨rfl, hc7⟩; have hb7 := nx hb6 hc7))
  go_ret
  exact ⟨rfl, hb7⟩
end Go.Proofs.YtkknmbkfiiidmaaDoor

