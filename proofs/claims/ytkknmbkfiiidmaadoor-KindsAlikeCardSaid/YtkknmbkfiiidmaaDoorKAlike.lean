/-
  The walk of KindsAlike: alike is an equivalence.
-/
import Derived.Test.YtkknmbkfiiidmaaDoorFolded
namespace Go.Proofs.YtkknmbkfiiidmaaDoor
open Go.RowKit

theorem fold_left (a b : Bs) : alikeB (foldB a) b = alikeB a b := by
  have h := alike_fold a
  rw [Bool.eq_iff_iff]
  exact ⟨fun k => alike_trans h k, fun k => alike_trans (by rw [alike_symm]; exact h) k⟩
theorem bs_seam (a c : ByteArray) : bs (a ++ ⟨#[124]⟩ ++ c) = bs a ++ (124 :: bs c) := by
  show (a ++ ⟨#[124]⟩ ++ c).data.toList = _
  rw [ByteArray.data_append, ByteArray.data_append, Array.toList_append, Array.toList_append, List.append_assoc]
  rfl
set_option maxRecDepth 100000 in
set_option maxHeartbeats 4000000 in
theorem kindsAlike_any (a : ByteArray) (ha : a.size ≤ 140737488351232) (b : ByteArray) (hbz : b.size ≤ 140737488351232) (c : ByteArray) (hc : c.size ≤ 140737488351232) (w : World) (hT : Tabs w) :
    Calls Tryd.prog 11 #[.string a, .string b, .string c] w fun e w' => e = .returned (.bool true) ∧ Below w.heap.size w w' := by
  have HT := Lib.hid hT
  have HAW := Lib.hid (fun w hT => kawake_any w hT)
  have hFl : (foldS a).size ≤ 140737488351232 := by
    rw [size_bs, bs_foldS]
    have := foldB_len _ (bs a) (Nat.le_refl _)
    rw [← size_bs] at this
    omega
  have H1 := Lib.hid (fun w hT => alike_any a b (by omega) (by omega) w hT)
  have H2 := Lib.hid (fun w hT => alike_any b c (by omega) (by omega) w hT)
  have H3 := Lib.hid (fun w hT => alike_any a c (by omega) (by omega) w hT)
  have H4 := Lib.hid (fun w hT => alike_any a a (by omega) (by omega) w hT)
  have H5 := Lib.hid (fun w hT => alike_any b a (by omega) (by omega) w hT)
  have H6 := Lib.hid (fun w hT => alike_any a (foldS a) (by omega) (by omega) w hT)
  have H7 := Lib.hid (fun w hT => alike_any (foldS a) b (by omega) (by omega) w hT)
  have HFD := Lib.hid (fun w hT => folded_any a ha w hT)
  have HC1 := Lib.hid (fun w => count_any a (by omega) w)
  have HC2 := Lib.hid (fun w => count_any b (by omega) w)
  have hsa : (a ++ ⟨#[124]⟩ ++ c).size = a.size + 1 + c.size := by rw [ByteArray.size_append, ByteArray.size_append]; rfl
  have hsb : (b ++ ⟨#[124]⟩ ++ c).size = b.size + 1 + c.size := by rw [ByteArray.size_append, ByteArray.size_append]; rfl
  have H8 := Lib.hid (fun w hT => alike_any (a ++ ⟨#[124]⟩ ++ c) (b ++ ⟨#[124]⟩ ++ c) (by omega) (by omega) w hT)
  rw [bs_seam, bs_seam] at H8
  rw [alike_refl] at H4
  rw [alike_symm] at H5
  rw [bs_foldS, alike_fold] at H6
  rw [bs_foldS, fold_left] at H7
  have hcn : alikeB (bs a) (bs b) = true → countN (bs a) = countN (bs b) := fun h => ((alike_iff _ _).1 h).1
  have hse : alikeB (bs a) (bs b) = true → alikeB (bs a ++ (124 :: bs c)) (bs b ++ (124 :: bs c)) = true := fun h => alike_seam _ _ _ h
  have htr : alikeB (bs a) (bs b) = true → alikeB (bs b) (bs c) = alikeB (bs a) (bs c) := fun h => by
    rw [Bool.eq_iff_iff]
    exact ⟨fun k => alike_trans h k, fun k => alike_trans (by rw [alike_symm]; exact h) k⟩
  obtain ⟨x, hx⟩ : ∃ x, alikeB (bs a) (bs b) = x := ⟨_, rfl⟩
  obtain ⟨y, hy⟩ : ∃ x, alikeB (bs b) (bs c) = x := ⟨_, rfl⟩
  obtain ⟨z, hz⟩ : ∃ x, alikeB (bs a) (bs c) = x := ⟨_, rfl⟩
  rw [hx] at H1 H5 H7 hcn hse htr
  rw [hy] at H2 htr
  rw [hz] at H3 htr
  obtain ⟨F, hF⟩ : ∃ F, foldS a = F := ⟨_, rfl⟩
  rw [hF] at H6 H7 HFD
  have hfit : a.size + 1 + c.size ≤ 281474976702465 ∧ b.size + 1 + c.size ≤ 281474976702465 := by omega
  clear hT hx hy hz hF hFl
  cases x
  · clear hcn hse htr H8 HC1 HC2
    go_enter Tryd.func11, Tryd.ntmps11
    go_wp2_with (first
      | (go_at_call 22; (with_reducible refine (HAW.out w HT.out).mono ?_); rintro e w1 ⟨rfl, hb1⟩)
      | (go_at_call 32; (with_reducible refine (H1.out w1 (HT.out.below hb1 (Nat.le_refl _))).mono ?_); rintro e w2 ⟨rfl, hb2⟩; have hb12 := nx hb1 hb2)
      | (go_at_call 32; (with_reducible refine (H2.out w2 (HT.out.below hb12 (Nat.le_refl _))).mono ?_); rintro e w3 ⟨rfl, hb3⟩; have hb13 := nx hb12 hb3)
      | (go_at_call 32; (with_reducible refine (H3.out w3 (HT.out.below hb13 (Nat.le_refl _))).mono ?_); rintro e w4 ⟨rfl, hb4⟩; have hb14 := nx hb13 hb4)
      | (go_at_call 32; (with_reducible refine (H4.out w4 (HT.out.below hb14 (Nat.le_refl _))).mono ?_); rintro e w5 ⟨rfl, hb5⟩; have hb15 := nx hb14 hb5)
      | (go_at_call 32; (with_reducible refine (H5.out w5 (HT.out.below hb15 (Nat.le_refl _))).mono ?_); rintro e w6 ⟨rfl, hb6⟩; have hb16 := nx hb15 hb6)
      | (go_at_call 35; (with_reducible refine (HFD.out w6 (HT.out.below hb16 (Nat.le_refl _))).mono ?_); rintro e w7 ⟨rfl, hb7⟩; have hb17 := nx hb16 hb7)
      | (go_at_call 32; (with_reducible refine (H6.out w7 (HT.out.below hb17 (Nat.le_refl _))).mono ?_); rintro e w8 ⟨rfl, hb8⟩; have hb18 := nx hb17 hb8)
      | (go_at_call 35; (with_reducible refine (HFD.out w8 (HT.out.below hb18 (Nat.le_refl _))).mono ?_); rintro e w9 ⟨rfl, hb9⟩; have hb19 := nx hb18 hb9)
      | (go_at_call 32; (with_reducible refine (H7.out w9 (HT.out.below hb19 (Nat.le_refl _))).mono ?_); rintro e w10 ⟨rfl, hb10⟩; have hb110 := nx hb19 hb10)
      )
    go_ret
    exact ⟨rfl, hb110⟩
  · have hyz := htr rfl
    subst hyz
    rw [hse rfl] at H8
    rw [hcn rfl] at HC1
    obtain ⟨N, hN⟩ : ∃ N, countN (bs b) = N := ⟨_, rfl⟩
    rw [hN] at HC1 HC2
    clear hcn hse htr hN
    go_enter Tryd.func11, Tryd.ntmps11
    go_wp2_with (first
      | (go_at_call 22; (with_reducible refine (HAW.out w HT.out).mono ?_); rintro e w1 ⟨rfl, hb1⟩)
      | (go_at_call 32; (with_reducible refine (H1.out w1 (HT.out.below hb1 (Nat.le_refl _))).mono ?_); rintro e w2 ⟨rfl, hb2⟩; have hb12 := nx hb1 hb2)
      | (go_at_call 32; (with_reducible refine (H2.out w2 (HT.out.below hb12 (Nat.le_refl _))).mono ?_); rintro e w3 ⟨rfl, hb3⟩; have hb13 := nx hb12 hb3)
      | (go_at_call 32; (with_reducible refine (H3.out w3 (HT.out.below hb13 (Nat.le_refl _))).mono ?_); rintro e w4 ⟨rfl, hb4⟩; have hb14 := nx hb13 hb4)
      | (go_at_call 32; (with_reducible refine (H4.out w4 (HT.out.below hb14 (Nat.le_refl _))).mono ?_); rintro e w5 ⟨rfl, hb5⟩; have hb15 := nx hb14 hb5)
      | (go_at_call 32; (with_reducible refine (H5.out w5 (HT.out.below hb15 (Nat.le_refl _))).mono ?_); rintro e w6 ⟨rfl, hb6⟩; have hb16 := nx hb15 hb6)
      | (go_at_call 35; (with_reducible refine (HFD.out w6 (HT.out.below hb16 (Nat.le_refl _))).mono ?_); rintro e w7 ⟨rfl, hb7⟩; have hb17 := nx hb16 hb7)
      | (go_at_call 32; (with_reducible refine (H6.out w7 (HT.out.below hb17 (Nat.le_refl _))).mono ?_); rintro e w8 ⟨rfl, hb8⟩; have hb18 := nx hb17 hb8)
      | (go_at_call 35; (with_reducible refine (HFD.out w8 (HT.out.below hb18 (Nat.le_refl _))).mono ?_); rintro e w9 ⟨rfl, hb9⟩; have hb19 := nx hb18 hb9)
      | (go_at_call 32; (with_reducible refine (H7.out w9 (HT.out.below hb19 (Nat.le_refl _))).mono ?_); rintro e w10 ⟨rfl, hb10⟩; have hb110 := nx hb19 hb10)
      | (go_at_call 36; (with_reducible refine (HC1.out w10).mono ?_); rintro e w11 ⟨rfl, hb11⟩; have hb111 := nx hb110 hb11)
      | (go_at_call 36; (with_reducible refine (HC2.out w11).mono ?_); rintro e w12 ⟨rfl, hb12⟩; have hb112 := nx hb111 hb12)
      | (go_at_call 32; (with_reducible refine (H8.out w12 (HT.out.below hb112 (Nat.le_refl _))).mono ?_); rintro e w13 ⟨rfl, hb13⟩; have hb113 := nx hb112 hb13))
    go_ret
    exact ⟨rfl, hb113⟩
end Go.Proofs.YtkknmbkfiiidmaaDoor
