/-
  The walk of the laws' awake, and of the law UtfCloses.
-/
import Derived.Test.YtnfjohlbpbonhaaDoorCloses
namespace Go.Proofs.YtnfjohlbpbonhaaDoor
open Go.RowKit

theorem aw1 (w : World) (hT : Tabs w) : Calls Tryd.prog 15 #[.string ⟨#[195, 169, 65]⟩] w fun e w' => e = .returned (.tuple #[.int .i32 233, .int .i64 2, .bool true]) ∧ Below w.heap.size w w' := by
  have h := first_any ⟨#[195, 169, 65]⟩ w hT
  have e1 : fR (bs ⟨#[195, 169, 65]⟩) = 233 := by decide +kernel
  have e2 : fW (bs ⟨#[195, 169, 65]⟩) = 2 := by decide +kernel
  have e3 : fB (bs ⟨#[195, 169, 65]⟩) = true := by decide +kernel
  rw [e1, e2, e3] at h
  exact h
theorem aw2 (w : World) (hT : Tabs w) : Calls Tryd.prog 17 #[.string ⟨#[65, 195, 169]⟩] w fun e w' => e = .returned (.tuple #[.int .i32 233, .int .i64 2, .bool true]) ∧ Below w.heap.size w w' := by
  have h := last_any ⟨#[65, 195, 169]⟩ (by decide) w hT
  have e1 : lR (bs ⟨#[65, 195, 169]⟩) = 233 := by decide +kernel
  have e2 : lW (bs ⟨#[65, 195, 169]⟩) = 2 := by decide +kernel
  have e3 : lB (bs ⟨#[65, 195, 169]⟩) = true := by decide +kernel
  rw [e1, e2, e3] at h
  exact h
theorem aw3 (w : World) : Calls Tryd.prog 41 #[.string ⟨#[195, 169, 65]⟩, .int .i64 1] w fun e w' => e = .returned (.tuple #[.int .i64 2, .int .i64 0]) ∧ Below w.heap.size w w' := by
  have h := at_any ⟨#[195, 169, 65]⟩ (by decide) 1 w
  have e1 : atZ (bs ⟨#[195, 169, 65]⟩) 1 = (2, 0) := by decide +kernel
  rw [e1] at h
  exact h
theorem aw4 (w : World) : Calls Tryd.prog 19 #[.string ⟨#[195, 169, 65, 255]⟩] w fun e w' => e = .returned (.int .i64 3) ∧ Below w.heap.size w w' := by
  have h := count_any ⟨#[195, 169, 65, 255]⟩ (by decide) w
  have e1 : countN (bs ⟨#[195, 169, 65, 255]⟩) = 3 := by decide +kernel
  rw [e1] at h
  exact h
theorem aw5 (w : World) (hT : Tabs w) : Calls Tryd.prog 24 #[.string ⟨#[65, 195]⟩] w fun e w' => e = .returned (.int .i64 1) ∧ Below w.heap.size w w' := by
  have h := pending_any ⟨#[65, 195]⟩ (by decide) w hT
  have e1 : pendN (bs ⟨#[65, 195]⟩) = 1 := by decide +kernel
  rw [e1] at h
  exact h
theorem aw6 (w : World) (hT : Tabs w) : Calls Tryd.prog 28 #[.string ⟨#[195]⟩, .string ⟨#[169]⟩] w fun e w' => e = .returned (.int .i64 1) ∧ Below w.heap.size w w' := by
  have h := closes_any ⟨#[195]⟩ ⟨#[169]⟩ (by decide) (by decide) w hT
  have e1 : closN (bs ⟨#[195]⟩) (bs ⟨#[169]⟩) = 1 := by decide +kernel
  rw [e1] at h
  exact h
theorem aw7 (w : World) : Calls Tryd.prog 32 #[.slice (some ⟨w.heap.size, 0, none⟩) 1 1] (w.alloc (.cells #[.int .i32 233] 21)) fun e w' => e = .returned (.string ⟨#[195, 169]⟩) ∧ Below (w.heap.size + 1) (w.alloc (.cells #[.int .i32 233] 21)) w' := by
  have h := encode_any (some ⟨w.heap.size, 0, none⟩) 1 [233] _ (reads_new w .i32 [233] 21) (by simp) (by simp)
  have e1 : encS [233] = ⟨#[195, 169]⟩ := by decide +kernel
  rw [e1, World.size_alloc] at h
  exact h

set_option maxHeartbeats 2000000 in
theorem awake_any (w : World) (hT : Tabs w) : Calls Tryd.prog 30 #[] w fun e w' => e = .returned (.bool true) ∧ Below w.heap.size w w' := by
  have HT := Lib.hid hT
  clear hT
  go_enter Tryd.func30, Tryd.ntmps30
  go_wp2_with fail
  (with_reducible refine (aw1 _ HT.out).mono ?_)
  rintro e w1 ⟨rfl, hb⟩
  go_wp2_with fail
  (with_reducible refine (aw2 _ (HT.out.below hb (Nat.le_refl _))).mono ?_)
  rintro e w2 ⟨rfl, hb2⟩
  have hb := nx hb hb2
  clear hb2
  go_wp2_with fail
  (with_reducible refine (aw3 _).mono ?_)
  rintro e w3 ⟨rfl, hb3⟩
  have hb := nx hb hb3
  clear hb3
  go_wp2_with fail
  (with_reducible refine (aw4 _).mono ?_)
  rintro e w4 ⟨rfl, hb4⟩
  have hb := nx hb hb4
  clear hb4
  go_wp2_with fail
  (with_reducible refine (aw5 _ (HT.out.below hb (Nat.le_refl _))).mono ?_)
  rintro e w5 ⟨rfl, hb5⟩
  have hb := nx hb hb5
  clear hb5
  go_wp2_with fail
  (with_reducible refine (aw6 _ (HT.out.below hb (Nat.le_refl _))).mono ?_)
  rintro e w6 ⟨rfl, hb6⟩
  have hb := nx hb hb6
  clear hb6
  go_wp2_with fail
  (with_reducible refine (aw7 _).mono ?_)
  rintro e w7 ⟨rfl, hb7⟩
  have hb := al hb (.cells #[.int .i32 233] 21)
  have hb := hb.trans (hb7.mono (by have := hb.size; rw [World.size_alloc] at this; omega))
  clear hb7
  go_wp2
  go_ret
  exact ⟨rfl, hb⟩

theorem closN_nil (b : Bs) : closN [] b = 0 := by
  unfold closN
  rw [if_neg]
  rintro ⟨h, _⟩
  rw [properB_short (by simp)] at h
  cases h

set_option maxHeartbeats 2000000 in
theorem utfCloses_any (a : ByteArray) (ha : a.size ≤ 140737488351232) (b : ByteArray) (hb : b.size ≤ 140737488351232) (w : World) (hT : Tabs w) :
    Calls Tryd.prog 5 #[.string a, .string b] w fun e w' => e = .returned (.bool true) ∧ Below w.heap.size w w' := by
  have HT := Lib.hid hT
  clear hT
  go_enter Tryd.func5, Tryd.ntmps5
  go_wp2_with fail
  (with_reducible refine (closes_any a b ha hb _ HT.out).mono ?_)
  rintro e w1 ⟨rfl, hb1⟩
  go_wp2_with fail
  (with_reducible refine (refcloses_any a b ha hb _).mono ?_)
  rintro e w2 ⟨rfl, hb2⟩
  have hb1 := nx hb1 hb2
  clear hb2
  go_wp2_with fail
  go_loopw [5] (fun i wr => ∃ k : Nat, i = .int .i64 k ∧ k ≤ 5 ∧ k ≤ a.size + 1 ∧ Below w.heap.size w wr) (fun i _ => 5 - (intOf i).toNat)
  case atStart => exact ⟨0, rfl, by omega, by omega, hb1⟩
  case round =>
    obtain ⟨k, rfl, hk5, hka, hb2⟩ := hrel
    by_cases hin : k ≤ 4 ∧ k ≤ a.size
    · obtain ⟨h4, hks⟩ := hin
      have hE : (a.extract (a.size - k) a.size).size ≤ 140737488351232 := by rw [size_bs, bs_drop]; simp; omega
      have HE := Lib.hid hE
      have HB := Lib.hid hb2
      clear hE
      go_wp2_with fail
      (with_reducible refine (closes_any _ b HE.out hb _ (HT.out.below HB.out (Nat.le_refl _))).mono ?_)
      rintro e w3 ⟨rfl, hb3⟩
      have hb3 := nx HB.out hb3
      go_wp2_with fail
      (with_reducible refine (refcloses_any _ b HE.out hb _).mono ?_)
      rintro e w4 ⟨rfl, hb4⟩
      have hb4 := nx hb3 hb4
      go_wp2_with fail
      (with_reducible refine (pending_any _ HE.out _ (HT.out.below hb4 (Nat.le_refl _))).mono ?_)
      rintro e w5 ⟨rfl, hb5⟩
      have hb5 := nx hb4 hb5
      go_wp2_with fail
      (with_reducible refine (refpending_any _ HE.out _).mono ?_)
      rintro e w6 ⟨rfl, hb6⟩
      have hb6 := nx hb5 hb6
      clear hb3 hb4 hb5
      go_wp2
      go_roundw
      case rel => exact ⟨k + 1, by go_num, by omega, by omega, hb6⟩
      case measure => simp [intOf]; omega
    · have hC := fun w (hT : Tabs w) => closes_any ⟨#[]⟩ b (by decide) hb w hT
      have e0 : bs ⟨#[]⟩ = [] := rfl
      rw [e0, closN_nil] at hC
      have HC := Lib.hid hC
      have HB := Lib.hid hb2
      clear hC
      by_cases h4 : k ≤ 4
      all_goals
        have hks : k ≤ 4 → ¬ k ≤ a.size := by omega
        clear hin
        go_wp2_with fail
        (with_reducible refine (HC.out _ (HT.out.below HB.out (Nat.le_refl _))).mono ?_)
        rintro e w3 ⟨rfl, hb3⟩
        have hb3 := nx HB.out hb3
        go_wp2_with fail
        (with_reducible refine (awake_any _ (HT.out.below hb3 (Nat.le_refl _))).mono ?_)
        rintro e w4 ⟨rfl, hb4⟩
        have hb4 := nx hb3 hb4
        go_wp2
        go_ret
        exact ⟨rfl, hb4⟩
end Go.Proofs.YtnfjohlbpbonhaaDoor
