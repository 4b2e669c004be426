/-
  A place and a spot: the walk of the statement ViewPlaces.
-/
import Derived.Test.YticonolnagcakaaDoorVwRefP
import Derived.Test.YticonolnagcakaaDoorVwB
namespace Go.Proofs.YticonolnagcakaaDoor
open Go.RowKit

set_option maxRecDepth 100000 in
set_option maxHeartbeats 8000000 in
theorem viewPlaces_any (s : ByteArray) (hs : s.size ≤ 1048576) (W T c i j : Int) (w : World) (hT : Tabs w) :
    Calls Tryd.prog 4 #[.string s, .agg #[.int .i64 W, .int .i64 T, .int .i64 c, .int .i64 i, .int .i64 j]] w fun e w' => e = .returned (.bool true) ∧ Below w.heap.size w w' := by
  have HT := Lib.hid hT
  clear hT
  have HW := Lib.hid (fun w hT => vworks_any w hT)
  have HA := Lib.hid (fun c w hT => vwhere_any W T s (by omega) c w hT)
  have HB := Lib.hid (fun c w => refwhere_any W T s (by omega) c w)
  have HC := Lib.hid (fun r c w hT => vplace_any W T s (by omega) r c w hT)
  have HD := Lib.hid (fun r c w => refplace_any W T s (by omega) r c w)
  obtain ⟨l, hl⟩ : ∃ l, bs s = l := ⟨_, rfl⟩
  rw [hl] at HA HB HC HD
  clear hl
  go_enter Tryd.func4, Tryd.ntmps4
  go_upto_region 1 with fail
  go_name_world X hX
  have hR0 : Blk X w.heap.size 44 [.int .i64 W, .int .i64 T, .int .i64 c, .int .i64 i, .int .i64 j] := by rw [← hX]; exact Blk.new w _ _
  have hb0 : Below w.heap.size w X := by rw [← hX]; exact al (Below.refl _ _) _
  clear hX
  have x0 := hR0.cell 0 rfl
  have x1 := hR0.cell 1 rfl
  have x2 := hR0.cell 2 rfl
  have x3 := hR0.cell 3 rfl
  have x4 := hR0.cell 4 rfl
  go_cut [5, 6, 7] from 21 to 26 (fun b m d wx => m = .int .i64 c ∧ ∃ B : Nat, b = .pointer (some ⟨B, 0, none⟩) ∧ Blk wx B 23 [.int .i64 W, .int .i64 T] ∧ ∃ C : Nat, d = .pointer (some ⟨C, 0, none⟩) ∧ Blk wx C 42 [.int .i64 i, .int .i64 j] ∧ Below w.heap.size w wx)
  case first =>
    clear HA HB HC HD HW HT
    have n0 := World.new_ne X _ x0
    have n1 : X.heap.size + 1 ≠ w.heap.size := by have := hR0.lt; omega
    simp only at n0
    have y0 : ∀ o, (X.alloc o).cell? ⟨w.heap.size, 0, none⟩ = some (.int .i64 W) := fun o => (hR0.alloc o).cell 0 rfl
    have y1 : ∀ o, (X.alloc o).cell? ⟨w.heap.size, 1, none⟩ = some (.int .i64 T) := fun o => (hR0.alloc o).cell 1 rfl
    have y2 : ∀ o, (X.alloc o).cell? ⟨w.heap.size, 2, none⟩ = some (.int .i64 c) := fun o => (hR0.alloc o).cell 2 rfl
    have y3 : ∀ o, (X.alloc o).cell? ⟨w.heap.size, 3, none⟩ = some (.int .i64 i) := fun o => (hR0.alloc o).cell 3 rfl
    have y4 : ∀ o, (X.alloc o).cell? ⟨w.heap.size, 4, none⟩ = some (.int .i64 j) := fun o => (hR0.alloc o).cell 4 rfl
    have z0 : ∀ o o', ((X.alloc o).alloc o').cell? ⟨w.heap.size, 0, none⟩ = some (.int .i64 W) := fun o o' => ((hR0.alloc o).alloc o').cell 0 rfl
    have z1 : ∀ o o', ((X.alloc o).alloc o').cell? ⟨w.heap.size, 1, none⟩ = some (.int .i64 T) := fun o o' => ((hR0.alloc o).alloc o').cell 1 rfl
    have z2 : ∀ o o', ((X.alloc o).alloc o').cell? ⟨w.heap.size, 2, none⟩ = some (.int .i64 c) := fun o o' => ((hR0.alloc o).alloc o').cell 2 rfl
    have z3 : ∀ o o', ((X.alloc o).alloc o').cell? ⟨w.heap.size, 3, none⟩ = some (.int .i64 i) := fun o o' => ((hR0.alloc o).alloc o').cell 3 rfl
    have z4 : ∀ o o', ((X.alloc o).alloc o').cell? ⟨w.heap.size, 4, none⟩ = some (.int .i64 j) := fun o o' => ((hR0.alloc o).alloc o').cell 4 rfl
    have FA := Lib.hid (two_boxes (w := X) (xs := [.int .i64 W, .int .i64 T]) (ys := [.int .i64 i, .int .i64 j]) (t := 23) (u := 42) rfl)
    have FB := Lib.hid (two_boxes (w := X) (xs := [.int .i64 i, .int .i64 j]) (ys := [.int .i64 W, .int .i64 T]) (t := 42) (u := 23) rfl)
    have HB0 := Lib.hid hb0
    go_region_law (fail)
    all_goals (go_wp2_with fail; go_meet)
    all_goals first
      | exact ⟨rfl, _, rfl, FA.out.1, _, rfl, FA.out.2.1, (nx HB0.out FA.out.2.2.1).drew⟩
      | exact ⟨rfl, _, rfl, FB.out.2.1, _, rfl, FB.out.1, (nx HB0.out FB.out.2.2.1).drew⟩
  case rest =>
    obtain ⟨rfl, B, rfl, hV, C, rfl, hP, hbY⟩ := hcut
    clear hR0 hb0 x0 x1 x2 x3 x4
    obtain ⟨Y, hY⟩ : ∃ Y, wc = Y := ⟨_, rfl⟩
    rw [hY] at hV hP hbY ⊢
    clear hY
    have hBY := hV.lt
    have hCY := hP.lt
    go_wp2_with fail
    go_loopw [8] (fun n wr => ∃ k : Int, n = .int .i64 k ∧ -2 ≤ k ∧ k ≤ 40 ∧ Below Y.heap.size Y wr) (fun n _ => (40 - intOf n).toNat)
    case atStart => exact ⟨-2, rfl, by omega, by omega, Below.refl _ _⟩
    case round =>
      obtain ⟨k, rfl, hk1, hk2, hb⟩ := hrel
      have hbW := nx hbY hb
      have hVr := hV.below hb
      go_upto_region 3 with fail
      go_cut [39] from 27 to 39 (fun b wx => wr = wx ∧ ∃ bb, b = .bool bb ∧ (bb = true → k < 40))
      case first =>
        by_cases h1 : k < 40
        · by_cases h2 : k < 4
          · go_wp2_with fail
            all_goals (go_meet; exact ⟨rfl, _, rfl, fun _ => h1⟩)
          · have hmul0 : 0 ≤ k * (s.size : Int) := Int.mul_nonneg (by omega) (by omega)
            have hmul : k * (s.size : Int) ≤ 40 * 1048576 := Int.mul_le_mul (by omega) (by omega) (by omega) (by omega)
            go_wp2_with fail
            all_goals (go_meet; exact ⟨rfl, _, rfl, fun _ => h1⟩)
        · go_wp2_with fail
          all_goals (go_meet; exact ⟨rfl, _, rfl, fun h => (by first | (simp at h) | omega)⟩)
      case rest =>
        obtain ⟨rfl, bb, rfl, hbb⟩ := hcut
        cases bb
        · clear hVr hbb
          go_wp2_with fail
          go_loopw [14] (fun n wq => ∃ g : Int, n = .int .i64 g ∧ -2 ≤ g ∧ g ≤ 5 ∧ Below Y.heap.size Y wq) (fun n _ => (5 - intOf n).toNat)
          case atStart => exact ⟨-2, rfl, by omega, by omega, hb⟩
          case round =>
            clear hb hbW
            obtain ⟨g, rfl, hg1, hg2, hb⟩ := hrel
            have hbW := nx hbY hb
            go_upto_region 13 with fail
            go_cut [84] from 74 to 84 (fun b wx => wr = wx ∧ ∃ bb, b = .bool bb ∧ (bb = true → g < 5))
            case first =>
              by_cases h1 : g < 5
              · by_cases h2 : g < 0
                · go_wp2_with fail
                  all_goals (go_meet; exact ⟨rfl, _, rfl, fun _ => h1⟩)
                · go_wp2_with fail
                  all_goals (go_meet; exact ⟨rfl, _, rfl, fun _ => h1⟩)
              · go_wp2_with fail
                all_goals (go_meet; exact ⟨rfl, _, rfl, fun h => (by first | (simp at h) | omega)⟩)
            case rest =>
              obtain ⟨rfl, bb, rfl, hbb⟩ := hcut
              cases bb
              · clear hbb
                go_wp2_with (first
                  | (go_at_call 16; (with_reducible refine (HW.out _ (HT.out.below hbW (Nat.le_refl _))).mono ?_); rintro e w7 ⟨rfl, hb7⟩; have hb17 := nx hbW hb7))
                go_ret
                exact ⟨rfl, hb17⟩
              · have hg3 := hbb rfl
                clear hbb
                go_wp2_with fail
                go_loopw [15] (fun n wq => ∃ k : Int, n = .int .i64 k ∧ -1 ≤ k ∧ k ≤ 7 ∧ Below Y.heap.size Y wq) (fun n _ => (7 - intOf n).toNat)
                case atStart => exact ⟨-1, rfl, by omega, by omega, hb⟩
                case round =>
                  clear hb hbW
                  obtain ⟨k, rfl, hk1, hk2, hb⟩ := hrel
                  have hbW := nx hbY hb
                  have hVr := hV.below hb
                  have hPr := hP.below hb
                  by_cases hk3 : k < 7
                  · go_upto_region 19 with fail
                    go_name_world Z hZ
                    have hQ : Blk Z wr.heap.size 42 [.int .i64 g, .int .i64 k] := by rw [← hZ]; exact Blk.new wr _ _
                    have hbZ : Below wr.heap.size wr Z := by rw [← hZ]; exact al (Below.refl _ _) _
                    obtain ⟨D, hD⟩ : ∃ D, wr.heap.size = D := ⟨_, rfl⟩
                    have hVZ := hVr.below hbZ
                    have hPZ := hPr.below hbZ
                    rw [hD] at hQ hbZ ⊢
                    clear hZ
                    have p0 := hPZ.cell 0 rfl
                    have p1 := hPZ.cell 1 rfl
                    have f0 := hQ.frozen 0
                    have f1 := hQ.frozen 1
                    have e0 := hQ.cell 0 rfl
                    have e1 := hQ.cell 1 rfl
                    go_upto_if 95 with fail
                    go_cut [96] from 96 to 102 (fun _ wx => Below D wr wx ∧ ∃ q0 : Int, ∃ q1 : Int, Blk wx D 42 [.int .i64 q0, .int .i64 q1])
                    case first =>
                      by_cases h1 : g = -2
                      · subst h1
                        go_wp2_with fail
                        go_meet
                        obtain ⟨hF, hgF⟩ := stored2 hQ (i := 0) (j := 1) (a := .int .i64 i) (b := .int .i64 (wrap64 (j + k))) rfl
                        exact ⟨hbZ.grown hgF (by rw [← hD]; exact hbZ.size) (fun q e => by injection e with e; omega), i, _, hF⟩
                      · have h1d : (g == -2) = false := beq_eq_false_iff_ne.2 h1
                        go_wp2_with fail
                        go_meet
                        exact ⟨hbZ, g, k, hQ⟩
                    case rest =>
                      obtain ⟨hbw, q0, q1, hQ2⟩ := hcut
                      clear hQ hbZ hVZ hPZ p0 p1 f0 f1 e0 e1
                      have hC := Lib.hid (HC.out q0 q1)
                      have hDD := Lib.hid (HD.out q0 q1)
                      obtain ⟨⟨ra, re⟩, hr⟩ : ∃ x, placeR W T l q0 q1 = x := ⟨_, rfl⟩
                      rw [hr] at hC hDD
                      simp only at hC hDD
                      clear hr
                      rw [← hD] at hbw
                      have hVc := hVr.below hbw
                      have hbc := nx hbW hbw
                      have v0 := hVc.cell 0 rfl
                      have v1 := hVc.cell 1 rfl
                      have e0 := hQ2.cell 0 rfl
                      have e1 := hQ2.cell 1 rfl
                      go_wp2_with (first
                        | (go_at_call 19; (with_reducible refine (hC.out _ (HT.out.below hbc (Nat.le_refl _))).mono ?_); rintro e w5 ⟨rfl, hb5⟩; have hb15 := nx hbw hb5; have hV5 := hVc.below hb5; have x0 := hV5.cell 0 rfl; have x1 := hV5.cell 1 rfl; have hQ5 := hQ2.below hb5; have y0 := hQ5.cell 0 rfl; have y1 := hQ5.cell 1 rfl)
                        | (go_at_call 20; (with_reducible refine (hDD.out _).mono ?_); rintro e w6 ⟨rfl, hb6⟩; have hb16 := nx hb15 hb6))
                      go_roundw
                      case rel => exact ⟨k + 1, by go_num, by omega, by omega, nx hb hb16⟩
                      case measure => simp [intOf]; omega
                  · obtain rfl : k = 7 := by omega
                    go_wp2_with fail
                    go_roundw
                    case rel => exact ⟨g + 1, by go_num, by omega, by omega, hb⟩
                    case measure => simp [intOf]; omega
        · have hk3 := hbb rfl
          clear hbb
          go_upto_if 44 with fail
          go_cut [9] from 45 to 45 (fun n wx => wr = wx ∧ ∃ cc : Int, n = .int .i64 cc)
          case first =>
            by_cases h1 : k = -2
            · subst h1
              go_wp2_with fail
              all_goals (go_meet; exact ⟨rfl, _, rfl⟩)
            · have h1d : (k == -2) = false := beq_eq_false_iff_ne.2 h1
              go_wp2_with fail
              all_goals (go_meet; exact ⟨rfl, _, rfl⟩)
          case rest =>
            obtain ⟨rfl, cc, rfl⟩ := hcut
            have hA := Lib.hid (HA.out cc)
            have hB := Lib.hid (HB.out cc)
            obtain ⟨⟨⟨ra, rb⟩, re⟩, hr⟩ : ∃ x, whereV W T l cc = x := ⟨_, rfl⟩
            rw [hr] at hA hB
            simp only at hA hB
            clear hr
            have v0 := hVr.cell 0 rfl
            have v1 := hVr.cell 1 rfl
            go_upto_region 9 with (first
              | (go_at_call 17; go_loud (with_reducible refine (hA.out _ (HT.out.below hbW (Nat.le_refl _))).mono ?_); rintro e w5 ⟨rfl, hb5⟩))
            go_name_world Z hZ
            have hP5 : Blk Z w5.heap.size 42 [.int .i64 (ra : Nat), .int .i64 (rb : Nat)] := by rw [← hZ]; exact Blk.new w5 _ _
            have hb5Z : Below wr.heap.size wr Z := by rw [← hZ]; exact al hb5 _
            have hVZ := hVr.below hb5Z
            clear hZ hb5 v0 v1 hA
            have v0 := hVZ.cell 0 rfl
            have v1 := hVZ.cell 1 rfl
            go_upto_region 10 with (first
              | (go_at_call 18; (with_reducible refine (hB.out _).mono ?_); rintro e w6 ⟨rfl, hb6⟩))
            go_name_world Z2 hZ2
            have hP6 : Blk Z2 w6.heap.size 42 [.int .i64 (ra : Nat), .int .i64 (rb : Nat)] := by rw [← hZ2]; exact Blk.new w6 _ _
            have hP7 : Blk Z2 w5.heap.size 42 [.int .i64 (ra : Nat), .int .i64 (rb : Nat)] := by rw [← hZ2]; exact (hP5.below hb6).alloc _
            have hbZ2 : Below wr.heap.size wr Z2 := by rw [← hZ2]; exact al (nx hb5Z hb6) _
            clear hZ2 hb6 v0 v1 hB hP5 hVZ hb5Z
            have p0 := hP6.cell 0 rfl
            have p1 := hP6.cell 1 rfl
            have q0 := hP7.cell 0 rfl
            have q1 := hP7.cell 1 rfl
            have hes := eq_spot (ra : Nat) (rb : Nat) (ra : Nat) (rb : Nat)
            have hgs := guard_spot
            go_wp2_with fail
            go_roundw
            case rel => exact ⟨k + 1, by go_num, by omega, by omega, nx hb hbZ2⟩
            case measure => simp [intOf]; omega
end Go.Proofs.YticonolnagcakaaDoor
