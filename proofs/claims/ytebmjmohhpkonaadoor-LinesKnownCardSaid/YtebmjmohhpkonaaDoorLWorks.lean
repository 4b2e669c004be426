/-
  The law's closed part: Line, Where, Place, Count of a text of two lines.
-/
import Derived.Test.YtebmjmohhpkonaaDoorLLine
import Derived.Test.YtebmjmohhpkonaaDoorLWhere
import Derived.Test.YtebmjmohhpkonaaDoorLPlace
import Derived.Test.YtebmjmohhpkonaaDoorLCount
import Derived.Laws.StructEq
namespace Go.Proofs.YtebmjmohhpkonaaDoor
open Go.RowKit

theorem eq_piece (a b a' b' : Int) (w : World) :
    (Op.equalIn 10000 41 (.agg #[.int .i64 a, .int .i64 b]) (.agg #[.int .i64 a', .int .i64 b'])).run Tryd.prog w = .ok (decide (a = a' ∧ b = b')) w := by
  have u3 := Tryd.underlying3
  have a3 := Tryd.isAgg3
  have z3 := Tryd.sizeOf3
  have hS : Tryd.prog.underlying 41 = some (.struct (Tryd.prog.fieldsOf 41)) := by kernel_rfl
  have hp : Tryd.prog.stoodInHeld 41 = false := by kernel_rfl
  rw [show (10000 : Nat) = 9999 + 1 from rfl, run_equalIn_agg w 9999 41 _ _ hS hp]
  simp only [Program.fieldsOf, Tryd.underlying41]
  go_simp
  by_cases h1 : a = a' <;> by_cases h2 : b = b' <;> simp [h1, h2]
theorem guard_piece : Tryd.prog.eqGuardType Tryd.prog.depth 41 = false := by kernel_rfl
theorem eq_spot (a b a' b' : Int) (w : World) :
    (Op.equalIn 10000 27 (.agg #[.int .i64 a, .int .i64 b]) (.agg #[.int .i64 a', .int .i64 b'])).run Tryd.prog w = .ok (decide (a = a' ∧ b = b')) w := by
  have u3 := Tryd.underlying3
  have a3 := Tryd.isAgg3
  have z3 := Tryd.sizeOf3
  have hS : Tryd.prog.underlying 27 = some (.struct (Tryd.prog.fieldsOf 27)) := by kernel_rfl
  have hp : Tryd.prog.stoodInHeld 27 = false := by kernel_rfl
  rw [show (10000 : Nat) = 9999 + 1 from rfl, run_equalIn_agg w 9999 27 _ _ hS hp]
  simp only [Program.fieldsOf, Tryd.underlying27]
  go_simp
  by_cases h1 : a = a' <;> by_cases h2 : b = b' <;> simp [h1, h2]
theorem guard_spot : Tryd.prog.eqGuardType Tryd.prog.depth 27 = false := by kernel_rfl

/-- the text of the closed part -/
def wkS : ByteArray := ⟨#[97, 13, 10, 98]⟩
theorem wk_line (w : World) (hT : Tabs w) : Calls Tryd.prog 23 #[.string wkS, .int .i64 1] w fun e w' => e = .returned (.tuple #[.agg #[.int .i64 3, .int .i64 4], .int .i64 0, .int .i64 0]) ∧ Below w.heap.size w w' := by
  have h := lline_at wkS (by decide) 1 (by decide +kernel) w hT
  rw [show lnA (bs wkS) 1 = 3 by decide +kernel, show lnB (bs wkS) 1 = 4 by decide +kernel, show lnE (bs wkS) 1 = 0 by decide +kernel] at h
  exact h
theorem wk_where (w : World) (hT : Tabs w) : Calls Tryd.prog 14 #[.string wkS, .int .i64 3] w fun e w' => e = .returned (.tuple #[.agg #[.int .i64 1, .int .i64 0], .int .i64 0]) ∧ Below w.heap.size w w' := by
  have h := lwhere_at wkS (by decide) 3 (by decide) w hT
  rw [show lnOf (bs wkS) 3 = 1 by decide +kernel, show colOf (bs wkS) 3 = 0 by decide +kernel] at h
  exact h
theorem wk_place (w : World) (hT : Tabs w) : Calls Tryd.prog 16 #[.string wkS, .agg #[.int .i64 1, .int .i64 1]] w fun e w' => e = .returned (.tuple #[.int .i64 4, .int .i64 0]) ∧ Below w.heap.size w w' := by
  have h := lplace_any wkS (by decide) 1 1 w hT
  rw [show placeZ (bs wkS) 1 1 = (4, 0) by decide +kernel] at h
  exact h
theorem wk_count (w : World) (hT : Tabs w) : Calls Tryd.prog 20 #[.string wkS] w fun e w' => e = .returned (.int .i64 2) ∧ Below w.heap.size w w' := by
  have h := lcount_any wkS (by decide) w hT
  rw [show lnN (bs wkS) = 2 by decide +kernel] at h
  exact h

set_option maxHeartbeats 2000000 in
theorem works_any (w : World) (hT : Tabs w) : Calls Tryd.prog 13 #[] w fun e w' => e = .returned (.bool true) ∧ Below w.heap.size w w' := by
  have HT := Lib.hid hT
  have H1 := Lib.hid wk_line
  have H2 := Lib.hid wk_where
  have H3 := Lib.hid wk_place
  have H4 := Lib.hid wk_count
  have ep := eq_piece
  have gp := guard_piece
  have es := eq_spot
  have gs := guard_spot
  unfold wkS at H1 H2 H3 H4
  clear hT
  go_enter Tryd.func13, Tryd.ntmps13
  have hb : Below w.heap.size w w := Below.refl _ _
  go_wp2_with (first
    | (go_at_call 23; (with_reducible refine (H1.out _ (HT.out.below hb (Nat.le_refl _))).mono ?_); rintro e w1 ⟨rfl, hb1⟩)
    | (go_at_call 14; (with_reducible refine (H2.out _ (HT.out.below (al hb1 (.cells #[.int .i64 3, .int .i64 4] 41)) (Nat.le_refl _))).mono ?_); rintro e w2 ⟨rfl, hb2⟩; have hb12 := nx (al hb1 (.cells #[.int .i64 3, .int .i64 4] 41)) hb2; have T1 := Eq.trans (hb2.block _ (Two.new w1 41 (.int .i64 3) (.int .i64 4)).lt) (Two.new w1 41 (.int .i64 3) (.int .i64 4)))
    | (go_at_call 16; (with_reducible refine (H3.out _ (HT.out.below (al hb12 (.cells #[.int .i64 1, .int .i64 0] 27)) (Nat.le_refl _))).mono ?_); rintro e w3 ⟨rfl, hb3⟩; have hb13 := nx (al hb12 (.cells #[.int .i64 1, .int .i64 0] 27)) hb3; have T2 := Eq.trans (hb3.block _ (Two.new w2 27 (.int .i64 1) (.int .i64 0)).lt) (Two.new w2 27 (.int .i64 1) (.int .i64 0)); have T11 := Eq.trans (hb3.block _ (Two.alloc T1 _).lt) (Two.alloc T1 _))
    | (go_at_call 20; (with_reducible refine (H4.out _ (HT.out.below hb13 (Nat.le_refl _))).mono ?_); rintro e w4 ⟨rfl, hb4⟩; have T3 := Eq.trans (hb4.block _ (Two.lt T2)) T2; have T4 := Eq.trans (hb4.block _ (Two.lt T11)) T11; have q0 := Two.cell0 T3; have q1 := Two.cell1 T3; have q2 := Two.cell0 T4; have q3 := Two.cell1 T4; clear T1 T2 T11 T3 T4))
  go_ret
  exact ⟨rfl, nx hb13 hb4⟩
end Go.Proofs.YtebmjmohhpkonaaDoor
