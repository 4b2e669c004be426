/-
  The walks of LinesWheres and LinesPlaces.
-/
import Derived.Test.YtebmjmohhpkonaaDoorLRefWhere
import Derived.Test.YtebmjmohhpkonaaDoorLRefPlace
import Derived.Test.YtebmjmohhpkonaaDoorLWorks
namespace Go.Proofs.YtebmjmohhpkonaaDoor
open Go.RowKit

theorem where_both (s : ByteArray) (hs : s.size ≤ 1048576) (c : Int) :
    ∃ a b er : Int, (∀ w, Tabs w → Calls Tryd.prog 14 #[.string s, .int .i64 c] w fun e w' => e = .returned (.tuple #[.agg #[.int .i64 a, .int .i64 b], .int .i64 er]) ∧ Below w.heap.size w w') ∧
      ∀ w, Calls Tryd.prog 15 #[.string s, .int .i64 c] w fun e w' => e = .returned (.tuple #[.agg #[.int .i64 a, .int .i64 b], .int .i64 er]) ∧ Below w.heap.size w w' := by
  by_cases h : c < 0 ∨ (s.size : Int) < c
  · exact ⟨0, 0, 6, fun w _ => lwhere_out s (by omega) c h w, fun w => refwhere_out s hs c h w⟩
  · obtain ⟨i, rfl⟩ : ∃ i : Nat, c = i := ⟨c.toNat, by omega⟩
    exact ⟨_, _, _, fun w hT => lwhere_at s (by omega) i (by omega) w hT, fun w => refwhere_at s hs i (by omega) w⟩
theorem place_both (s : ByteArray) (hs : s.size ≤ 1048576) (L C : Int) :
    ∃ v er : Int, (∀ w, Tabs w → Calls Tryd.prog 16 #[.string s, .agg #[.int .i64 L, .int .i64 C]] w fun e w' => e = .returned (.tuple #[.int .i64 v, .int .i64 er]) ∧ Below w.heap.size w w') ∧
      ∀ w, Calls Tryd.prog 17 #[.string s, .agg #[.int .i64 L, .int .i64 C]] w fun e w' => e = .returned (.tuple #[.int .i64 v, .int .i64 er]) ∧ Below w.heap.size w w' :=
  ⟨_, _, fun w hT => lplace_any s (by omega) L C w hT, fun w => refplace_any s hs L C w⟩

set_option maxHeartbeats 8000000 in
theorem linesWheres_any (s : ByteArray) (hs : s.size ≤ 1048576) (c : Int) (w : World) (hT : Tabs w) :
    Calls Tryd.prog 4 #[.string s, .int .i64 c] w fun e w' => e = .returned (.bool true) ∧ Below w.heap.size w w' := by
  have HT := Lib.hid hT
  have HW := Lib.hid works_any
  have es := eq_spot
  have gs := guard_spot
  obtain ⟨a, b, er, h1, h2⟩ := where_both s hs c
  have H1 := Lib.hid h1
  have H2 := Lib.hid h2
  clear hT h1 h2
  go_enter Tryd.func4, Tryd.ntmps4
  go_wp2_with (first
    | (go_at_call 14; (with_reducible refine (H1.out _ HT.out).mono ?_); rintro e w1 ⟨rfl, hb1⟩; have T1 := Two.new w1 27 (.int .i64 a) (.int .i64 b))
    | (go_at_call 15; (with_reducible refine (H2.out _).mono ?_); rintro e w2 ⟨rfl, hb2⟩; have T2 : Two w2 w1.heap.size 27 (.int .i64 a) (.int .i64 b) := (hb2.block _ T1.lt).trans T1; have q0 := T2.cell0; have q1 := T2.cell1; have q2 := T2.lt))
  have hsz1 := hb1.size
  have hsz2 := hb2.size
  rw [World.size_alloc] at hsz2
  have hb0 : Below w.heap.size w (w2.alloc (.cells #[.int .i64 a, .int .i64 b] 27)) := al (nx (al hb1 _) hb2) _
  have T3 := Two.alloc T2 (.cells #[.int .i64 a, .int .i64 b] 27)
  have T4 := Two.new w2 27 (.int .i64 a) (.int .i64 b)
  obtain ⟨X, hX⟩ : ∃ X, w2.alloc (.cells #[.int .i64 a, .int .i64 b] 27) = X := ⟨_, rfl⟩
  obtain ⟨p1, hp1⟩ : ∃ p, w1.heap.size = p := ⟨_, rfl⟩
  obtain ⟨p2, hp2⟩ : ∃ p, w2.heap.size = p := ⟨_, rfl⟩
  simp only [hX, hp1, hp2] at T3 T4 hb0 hsz1 hsz2 ⊢
  clear hX hp1 hp2 T1 T2 q0 q1 q2 hb1 hb2 H1 H2
  go_loopw [9] (fun i wr => ∃ z a1 b1 a2 b2 : Int, -1 ≤ z ∧ z ≤ 60 ∧ i = .int .i64 z ∧ Two wr p1 27 (.int .i64 a1) (.int .i64 b1) ∧ Two wr p2 27 (.int .i64 a2) (.int .i64 b2) ∧ Below w.heap.size w wr) (fun i _ => (60 - intOf i).toNat)
  case atStart => exact ⟨-1, a, b, a, b, by omega, by omega, rfl, T3, T4, hb0⟩
  case round =>
    obtain ⟨z, a1, b1, a2, b2, hz1, hz2, rfl, t1, t2, hbr⟩ := hrel
    clear hb0 T3 T4
    by_cases h1 : z < (s.size : Int) + 2
    · by_cases h2 : z < 60
      · obtain ⟨a', b', er', h3, h4⟩ := where_both s hs z
        have H1 := Lib.hid h3
        have H2 := Lib.hid h4
        clear h3 h4
        have hpp : p1 ≠ p2 := by omega
        go_wp2_with (first
          | (go_at_call 14; (with_reducible refine (H1.out _ (HT.out.below hbr (Nat.le_refl _))).mono ?_); rintro e w1 ⟨rfl, hb1⟩; have u1 : Two w1 p1 27 (.int .i64 a1) (.int .i64 b1) := (hb1.block _ t1.lt).trans t1; have u2 : Two w1 p2 27 (.int .i64 a2) (.int .i64 b2) := (hb1.block _ t2.lt).trans t2; have d0 := u1.cell0; have d1 := u1.cell1; have f0 := u1.frozen0; have f1 := u1.frozen1)
          | (go_at_call 15; (with_reducible refine (H2.out _).mono ?_); rintro e w3 ⟨rfl, hb3⟩; clear d0 d1 f0 f1; have v1 : Two w3 p1 27 (.int .i64 a') (.int .i64 b') := (hb3.block _ ((u1.set0 (.int .i64 a')).set1 (.int .i64 b')).lt).trans ((u1.set0 (.int .i64 a')).set1 (.int .i64 b')); have v2 : Two w3 p2 27 (.int .i64 a2) (.int .i64 b2) := (hb3.block _ ((u2.other (by omega) 0 (.int .i64 a')).other (by omega) 1 (.int .i64 b')).lt).trans ((u2.other (by omega) 0 (.int .i64 a')).other (by omega) 1 (.int .i64 b')); have d0 := v1.cell0; have d1 := v1.cell1; have e0 := v2.cell0; have e1 := v2.cell1; have f0 := v2.frozen0; have f1 := v2.frozen1))
        have hb4 := (nx (((nx hbr hb1).setCell (p := ⟨p1, 0, none⟩) hsz1 (.int .i64 a')).setCell (p := ⟨p1, 1, none⟩) hsz1 (.int .i64 b')) hb3)
        exact ⟨⟨z + 1, a', b', a', b', by omega, by omega, rfl, (v1.other (by omega) _ _).other (by omega) _ _, (v2.set0 _).set1 _, (hb4.setCell (p := ⟨p2, 0, none⟩) (by simp only; omega) _).setCell (p := ⟨p2, 1, none⟩) (by simp only; omega) _⟩, by simp [intOf]; omega⟩
      · go_wp2_with (go_at_call 13; (with_reducible refine (HW.out _ (HT.out.below hbr (Nat.le_refl _))).mono ?_); rintro e w' ⟨rfl, hb'⟩)
        go_ret
        exact ⟨rfl, nx hbr hb'⟩
    · go_wp2_with (go_at_call 13; (with_reducible refine (HW.out _ (HT.out.below hbr (Nat.le_refl _))).mono ?_); rintro e w' ⟨rfl, hb'⟩)
      go_ret
      exact ⟨rfl, nx hbr hb'⟩
end Go.Proofs.YtebmjmohhpkonaaDoor
