/-
  The walk of LinesPlaces.
-/
import Derived.Test.YtebmjmohhpkonaaDoorLWheres
namespace Go.Proofs.YtebmjmohhpkonaaDoor
open Go.RowKit

set_option maxHeartbeats 8000000 in
theorem linesPlaces_any (s : ByteArray) (hs : s.size ≤ 1048576) (L C : Int) (w : World) (hT : Tabs w) :
    Calls Tryd.prog 5 #[.string s, .agg #[.int .i64 L, .int .i64 C]] w fun e w' => e = .returned (.bool true) ∧ Below w.heap.size w w' := by
  have HT := Lib.hid hT
  have HW := Lib.hid works_any
  obtain ⟨v, er, h1, h2⟩ := place_both s hs L C
  have H1 := Lib.hid h1
  have H2 := Lib.hid h2
  clear hT h1 h2
  have T0 := Two.new w 27 (.int .i64 L) (.int .i64 C)
  have hb0 : Below w.heap.size w (w.alloc (.cells #[.int .i64 L, .int .i64 C] 27)) := al (Below.refl _ _) _
  have d0 := T0.cell0
  have d1 := T0.cell1
  go_enter Tryd.func5, Tryd.ntmps5
  go_wp2_with (first
    | (go_at_call 16; (with_reducible refine (H1.out _ (HT.out.below hb0 (Nat.le_refl _))).mono ?_); rintro e w1 ⟨rfl, hb1⟩; have T1 : Two w1 w.heap.size 27 (.int .i64 L) (.int .i64 C) := (hb1.block _ T0.lt).trans T0; have e0 := T1.cell0; have e1 := T1.cell1; have hb2 := nx hb0 hb1)
    | (go_at_call 17; (with_reducible refine (H2.out _).mono ?_); rintro e w2 ⟨rfl, hb3⟩))
  have hb : Below w.heap.size w w2 := nx hb2 hb3
  clear T0 hb0 d0 d1 T1 e0 e1 hb1 hb2 hb3 H1 H2
  go_loopw [9] (fun i wr => ∃ z : Int, -1 ≤ z ∧ z ≤ 5 ∧ i = .int .i64 z ∧ Below w.heap.size w wr) (fun i _ => (5 - intOf i).toNat)
  case atStart => exact ⟨-1, by omega, by omega, rfl, hb⟩
  case round =>
    obtain ⟨z, hz1, hz2, rfl, hbr⟩ := hrel
    clear hb
    have hb := hbr
    by_cases h1 : z < 5
    · have hbo := hbr
      go_wp2_with fail
      clear hb hbr
      obtain ⟨wo, rfl⟩ : ∃ wo : World, wo = wr := ⟨_, rfl⟩
      go_loopw [10] (fun i wr => ∃ y : Int, -1 ≤ y ∧ y ≤ 9 ∧ i = .int .i64 y ∧ Below w.heap.size w wr) (fun i _ => (9 - intOf i).toNat)
      case atStart => exact ⟨-1, by omega, by omega, rfl, hbo⟩
      case round =>
        obtain ⟨y, hy1, hy2, rfl, hbr⟩ := hrel
        have hb := hbr
        by_cases h2 : y < 9
        · obtain ⟨v, er, h3, h4⟩ := place_both s hs z y
          have H1 := Lib.hid h3
          have H2 := Lib.hid h4
          clear h3 h4
          go_wp2_with (first
            | (go_at_call 16; (with_reducible refine (H1.out _ (HT.out.below hb (Nat.le_refl _))).mono ?_); rintro e w' ⟨rfl, hb'⟩; have hb := nx hb hb'; clear hb')
            | (go_at_call 17; (with_reducible refine (H2.out _).mono ?_); rintro e w' ⟨rfl, hb'⟩; have hb := nx hb hb'; clear hb')
            | (go_at_call 13; (with_reducible refine (HW.out _ (HT.out.below hb (Nat.le_refl _))).mono ?_); rintro e w' ⟨rfl, hb'⟩; have hb := nx hb hb'; clear hb'))
          exact ⟨⟨y + 1, by omega, by omega, rfl, hb⟩, by simp [intOf]; omega⟩
        · go_wp2_with fail
          exact ⟨⟨z + 1, by omega, by omega, rfl, hb⟩, by simp [intOf]; omega⟩
    ·
      go_wp2_with (first
        | (go_at_call 16; (with_reducible refine (H1.out _ (HT.out.below hb (Nat.le_refl _))).mono ?_); rintro e w' ⟨rfl, hb'⟩; have hb := nx hb hb'; clear hb')
        | (go_at_call 17; (with_reducible refine (H2.out _).mono ?_); rintro e w' ⟨rfl, hb'⟩; have hb := nx hb hb'; clear hb')
        | (go_at_call 13; (with_reducible refine (HW.out _ (HT.out.below hb (Nat.le_refl _))).mono ?_); rintro e w' ⟨rfl, hb'⟩; have hb := nx hb hb'; clear hb'))
      go_ret
      exact ⟨rfl, hb⟩
end Go.Proofs.YtebmjmohhpkonaaDoor
