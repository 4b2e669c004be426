/-
  The walk of the closed law UtfNames.
-/
import Derived.Test.YtnfjohlbpbonhaaDoorAwake
namespace Go.Proofs.YtnfjohlbpbonhaaDoor
open Go.RowKit

theorem nmP0 (w : World) (hT : Tabs w) : Calls Tryd.prog 24 #[.string ⟨#[226, 130]⟩] w fun e w' => e = .returned (.int .i64 2) ∧ Below w.heap.size w w' := by
  have h := pending_any ⟨#[226, 130]⟩ (by decide) w hT
  have e1 : pendN (bs ⟨#[226, 130]⟩) = 2 := by decide +kernel
  rw [e1] at h
  exact h
theorem nmP1 (w : World) (hT : Tabs w) : Calls Tryd.prog 24 #[.string ⟨#[224, 128]⟩] w fun e w' => e = .returned (.int .i64 0) ∧ Below w.heap.size w w' := by
  have h := pending_any ⟨#[224, 128]⟩ (by decide) w hT
  have e1 : pendN (bs ⟨#[224, 128]⟩) = 0 := by decide +kernel
  rw [e1] at h
  exact h
theorem nmP2 (w : World) (hT : Tabs w) : Calls Tryd.prog 24 #[.string ⟨#[240, 159, 152]⟩] w fun e w' => e = .returned (.int .i64 3) ∧ Below w.heap.size w w' := by
  have h := pending_any ⟨#[240, 159, 152]⟩ (by decide) w hT
  have e1 : pendN (bs ⟨#[240, 159, 152]⟩) = 3 := by decide +kernel
  rw [e1] at h
  exact h
theorem nmP3 (w : World) (hT : Tabs w) : Calls Tryd.prog 24 #[.string ⟨#[192]⟩] w fun e w' => e = .returned (.int .i64 0) ∧ Below w.heap.size w w' := by
  have h := pending_any ⟨#[192]⟩ (by decide) w hT
  have e1 : pendN (bs ⟨#[192]⟩) = 0 := by decide +kernel
  rw [e1] at h
  exact h
theorem nmP4 (w : World) (hT : Tabs w) : Calls Tryd.prog 24 #[.string ⟨#[]⟩] w fun e w' => e = .returned (.int .i64 0) ∧ Below w.heap.size w w' := by
  have h := pending_any ⟨#[]⟩ (by decide) w hT
  have e1 : pendN (bs ⟨#[]⟩) = 0 := by decide +kernel
  rw [e1] at h
  exact h
theorem nmC0 (w : World) (hT : Tabs w) : Calls Tryd.prog 28 #[.string ⟨#[226, 130]⟩, .string ⟨#[172, 65]⟩] w fun e w' => e = .returned (.int .i64 1) ∧ Below w.heap.size w w' := by
  have h := closes_any ⟨#[226, 130]⟩ ⟨#[172, 65]⟩ (by decide) (by decide) w hT
  have e1 : closN (bs ⟨#[226, 130]⟩) (bs ⟨#[172, 65]⟩) = 1 := by decide +kernel
  rw [e1] at h
  exact h
theorem nmC1 (w : World) (hT : Tabs w) : Calls Tryd.prog 28 #[.string ⟨#[226]⟩, .string ⟨#[130, 172]⟩] w fun e w' => e = .returned (.int .i64 2) ∧ Below w.heap.size w w' := by
  have h := closes_any ⟨#[226]⟩ ⟨#[130, 172]⟩ (by decide) (by decide) w hT
  have e1 : closN (bs ⟨#[226]⟩) (bs ⟨#[130, 172]⟩) = 2 := by decide +kernel
  rw [e1] at h
  exact h
theorem nmC2 (w : World) (hT : Tabs w) : Calls Tryd.prog 28 #[.string ⟨#[226]⟩, .string ⟨#[130]⟩] w fun e w' => e = .returned (.int .i64 0) ∧ Below w.heap.size w w' := by
  have h := closes_any ⟨#[226]⟩ ⟨#[130]⟩ (by decide) (by decide) w hT
  have e1 : closN (bs ⟨#[226]⟩) (bs ⟨#[130]⟩) = 0 := by decide +kernel
  rw [e1] at h
  exact h
theorem nmC3 (w : World) (hT : Tabs w) : Calls Tryd.prog 28 #[.string ⟨#[65]⟩, .string ⟨#[65]⟩] w fun e w' => e = .returned (.int .i64 0) ∧ Below w.heap.size w w' := by
  have h := closes_any ⟨#[65]⟩ ⟨#[65]⟩ (by decide) (by decide) w hT
  have e1 : closN (bs ⟨#[65]⟩) (bs ⟨#[65]⟩) = 0 := by decide +kernel
  rw [e1] at h
  exact h
theorem nmC4 (w : World) (hT : Tabs w) : Calls Tryd.prog 28 #[.string ⟨#[240]⟩, .string ⟨#[159, 152, 128]⟩] w fun e w' => e = .returned (.int .i64 3) ∧ Below w.heap.size w w' := by
  have h := closes_any ⟨#[240]⟩ ⟨#[159, 152, 128]⟩ (by decide) (by decide) w hT
  have e1 : closN (bs ⟨#[240]⟩) (bs ⟨#[159, 152, 128]⟩) = 3 := by decide +kernel
  rw [e1] at h
  exact h
theorem nmN0 (w : World) : Calls Tryd.prog 19 #[.string ⟨#[237, 160, 128]⟩] w fun e w' => e = .returned (.int .i64 3) ∧ Below w.heap.size w w' := by
  have h := count_any ⟨#[237, 160, 128]⟩ (by decide) w
  have e1 : countN (bs ⟨#[237, 160, 128]⟩) = 3 := by decide +kernel
  rw [e1] at h
  exact h
theorem nmN1 (w : World) : Calls Tryd.prog 19 #[.string ⟨#[244, 144, 128, 128]⟩] w fun e w' => e = .returned (.int .i64 4) ∧ Below w.heap.size w w' := by
  have h := count_any ⟨#[244, 144, 128, 128]⟩ (by decide) w
  have e1 : countN (bs ⟨#[244, 144, 128, 128]⟩) = 4 := by decide +kernel
  rw [e1] at h
  exact h
theorem nmM (w : World) : Calls Tryd.prog 26 #[.string ⟨#[255]⟩] w fun e w' => e = .returned (.string ⟨#[239, 191, 189]⟩) ∧ Below w.heap.size w w' := by
  have h := mend_any ⟨#[255]⟩ (by decide) w
  have e1 : encS (runesZ (bs ⟨#[255]⟩)) = ⟨#[239, 191, 189]⟩ := by decide +kernel
  rw [e1] at h
  exact h

set_option maxHeartbeats 2000000 in
theorem utfNames_any (w : World) (hT : Tabs w) : Calls Tryd.prog 8 #[] w fun e w' => e = .returned (.bool true) ∧ Below w.heap.size w w' := by
  have HT := Lib.hid hT
  clear hT
  go_enter Tryd.func8, Tryd.ntmps8
  have hb := Below.refl w.heap.size w
  go_wp2_with fail
  (with_reducible refine (nmP0 _ (HT.out.below hb (Nat.le_refl _))).mono ?_)
  rintro e w1 ⟨rfl, hb'⟩
  have hb := nx hb hb'
  clear hb'
  go_wp2_with fail
  (with_reducible refine (nmP1 _ (HT.out.below hb (Nat.le_refl _))).mono ?_)
  rintro e w2 ⟨rfl, hb'⟩
  have hb := nx hb hb'
  clear hb'
  go_wp2_with fail
  (with_reducible refine (nmP2 _ (HT.out.below hb (Nat.le_refl _))).mono ?_)
  rintro e w3 ⟨rfl, hb'⟩
  have hb := nx hb hb'
  clear hb'
  go_wp2_with fail
  (with_reducible refine (nmP3 _ (HT.out.below hb (Nat.le_refl _))).mono ?_)
  rintro e w4 ⟨rfl, hb'⟩
  have hb := nx hb hb'
  clear hb'
  go_wp2_with fail
  (with_reducible refine (nmP4 _ (HT.out.below hb (Nat.le_refl _))).mono ?_)
  rintro e w5 ⟨rfl, hb'⟩
  have hb := nx hb hb'
  clear hb'
  go_wp2_with fail
  (with_reducible refine (nmC0 _ (HT.out.below hb (Nat.le_refl _))).mono ?_)
  rintro e w6 ⟨rfl, hb'⟩
  have hb := nx hb hb'
  clear hb'
  go_wp2_with fail
  (with_reducible refine (nmC1 _ (HT.out.below hb (Nat.le_refl _))).mono ?_)
  rintro e w7 ⟨rfl, hb'⟩
  have hb := nx hb hb'
  clear hb'
  go_wp2_with fail
  (with_reducible refine (nmC2 _ (HT.out.below hb (Nat.le_refl _))).mono ?_)
  rintro e w8 ⟨rfl, hb'⟩
  have hb := nx hb hb'
  clear hb'
  go_wp2_with fail
  (with_reducible refine (nmC3 _ (HT.out.below hb (Nat.le_refl _))).mono ?_)
  rintro e w9 ⟨rfl, hb'⟩
  have hb := nx hb hb'
  clear hb'
  go_wp2_with fail
  (with_reducible refine (nmC4 _ (HT.out.below hb (Nat.le_refl _))).mono ?_)
  rintro e w10 ⟨rfl, hb'⟩
  have hb := nx hb hb'
  clear hb'
  go_wp2_with fail
  (with_reducible refine (awake_any _ (HT.out.below hb (Nat.le_refl _))).mono ?_)
  rintro e w11 ⟨rfl, hb'⟩
  have hb := nx hb hb'
  clear hb'
  go_wp2_with fail
  (with_reducible refine (nmN0 _).mono ?_)
  rintro e w12 ⟨rfl, hb'⟩
  have hb := nx hb hb'
  clear hb'
  go_wp2_with fail
  (with_reducible refine (nmN1 _).mono ?_)
  rintro e w13 ⟨rfl, hb'⟩
  have hb := nx hb hb'
  clear hb'
  go_wp2_with fail
  (with_reducible refine (nmM _).mono ?_)
  rintro e w14 ⟨rfl, hb'⟩
  have hb := nx hb hb'
  clear hb'
  go_wp2
  go_ret
  exact ⟨rfl, hb⟩
end Go.Proofs.YtnfjohlbpbonhaaDoor
