/-
  The walk of the law UtfPlaces.
-/
import Derived.Test.YtnfjohlbpbonhaaDoorChars
namespace Go.Proofs.YtnfjohlbpbonhaaDoor
open Go.RowKit

set_option maxHeartbeats 1000000 in
theorem place_any (s : ByteArray) (hs : s.size ≤ 1048576) (c : Int) (w : World) (hT : Tabs w) :
    Calls Tryd.prog 14 #[.string s, .int .i64 c] w fun e w' => e = .returned (.bool true) ∧ Below w.heap.size w w' := by
  have hs2 : s.size ≤ 140737488351232 := by omega
  have HT := Lib.hid hT
  clear hT
  go_enter Tryd.func14, Tryd.ntmps14
  go_wp2_with fail
  (with_reducible refine (at_any s hs2 _ _).mono ?_)
  rintro e w1 ⟨rfl, hb1⟩
  go_wp2_with fail
  (with_reducible refine (refat_any s hs _ _).mono ?_)
  rintro e w2 ⟨rfl, hb2⟩
  have hb2' := nx hb1 hb2
  clear hb1 hb2
  go_wp2_with fail
  (with_reducible refine (of_any s hs2 _ _).mono ?_)
  rintro e w3 ⟨rfl, hb3⟩
  have hb3' := nx hb2' hb3
  clear hb2' hb3
  go_wp2_with fail
  (with_reducible refine (refof_any s hs _ _).mono ?_)
  rintro e w4 ⟨rfl, hb4⟩
  have hb4' := nx hb3' hb4
  clear hb3' hb4
  go_wp2_with fail
  (with_reducible refine (begins_any s hs2 _ _ (HT.out.below hb4' (Nat.le_refl _))).mono ?_)
  rintro e w5 ⟨rfl, hb5⟩
  have hb5' := nx hb4' hb5
  clear hb4' hb5
  go_wp2_with fail
  (with_reducible refine (refbegs_any s hs _ _).mono ?_)
  rintro e w6 ⟨rfl, hb6⟩
  have hb6' := nx hb5' hb6
  clear hb5' hb6
  go_wp2
  go_ret
  exact ⟨rfl, hb6'⟩

set_option maxHeartbeats 1000000 in
theorem utfPlaces_any (s : ByteArray) (hs : s.size ≤ 1048576) (c : Int) (w : World) (hT : Tabs w) :
    Calls Tryd.prog 3 #[.string s, .int .i64 c] w fun e w' => e = .returned (.bool true) ∧ Below w.heap.size w w' := by
  have HT := Lib.hid hT
  clear hT
  go_enter Tryd.func3, Tryd.ntmps3
  go_wp2_with fail
  (with_reducible refine (place_any s hs _ _ HT.out).mono ?_)
  rintro e w1 ⟨rfl, hb1⟩
  by_cases h2 : 200 < s.size
  · go_wp2_with fail
    go_ret
    exact ⟨rfl, hb1⟩
  · go_wp2_with fail
    go_loopw [5] (fun i wr => ∃ k : Int, i = .int .i64 k ∧ -2 ≤ k ∧ k ≤ s.size + 3 ∧ Below w.heap.size w wr) (fun i _ => (s.size + 3 - intOf i).toNat)
    case atStart => exact ⟨_, rfl, by omega, by omega, hb1⟩
    case round =>
      obtain ⟨k, rfl, hk1, hk2, hb2⟩ := hrel
      have HB := Lib.hid hb2
      by_cases hlt : k ≤ s.size + 2
      · go_wp2_with fail
        (with_reducible refine (place_any s hs _ _ (HT.out.below HB.out (Nat.le_refl _))).mono ?_)
        rintro e w3 ⟨rfl, hb3⟩
        go_wp2
        go_roundw
        case rel => exact ⟨k + 1, rfl, by omega, by omega, nx HB.out hb3⟩
        case measure => simp [intOf]; omega
      · go_wp2
        go_ret
        exact ⟨rfl, HB.out⟩
end Go.Proofs.YtnfjohlbpbonhaaDoor
