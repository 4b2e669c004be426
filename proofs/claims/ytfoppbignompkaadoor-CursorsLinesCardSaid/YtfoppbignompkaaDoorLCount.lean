/-
  How many lines there are: the contract of Count.
-/
import Derived.Test.YtfoppbignompkaaDoorLAll
import Derived.Test.YtfoppbignompkaaDoorBox
namespace Go.Proofs.YtfoppbignompkaaDoor
open Go.RowKit
attribute [local go_sem] Oper.semAt_some

set_option maxRecDepth 10000 in
set_option maxHeartbeats 4000000 in
theorem lcount_any (s : ByteArray) (hs : s.size ≤ 140737488351232) (w : World) (hT : Tabs w) :
    Calls Tryd.prog 29 #[.string s] w fun e w' => e = .returned (.int .i64 (lnN (bs s) : Nat)) ∧ Below w.heap.size w w' := by
  have HT := Lib.hid hT
  have hN := lnN_le (bs s)
  rw [← size_bs] at hN
  clear hT
  refine callsIn_wide.1 (callsIn_of_wp_marks (n := 9) Tryd.func29 rfl trivial (wpIn_wide.2 ?_) rfl)
  simp only [Tryd.ntmps29, List.size_toArray, List.length_cons, List.length_nil, Nat.reduceAdd, Nat.reduceSub, Array.replicate_succ, Array.replicate_zero, List.push_toArray, List.append_toArray, List.nil_append, List.cons_append]
  go_wp2_with (first | (go_at_call 54; (with_reducible refine (lall_in s _).mono ?_); rintro e w2 ⟨rfl, rfl⟩))
  have B3 := (Boxed.new w 3 (.int .i64 0)).alloc (.cells #[.string s] 9)
  have B4 := Boxed.new (w.alloc (.cells #[.int .i64 0] 3)) 9 (.string s)
  rw [World.size_alloc] at B4
  have hbX : Below w.heap.size w ((w.alloc (.cells #[.int .i64 0] 3)).alloc (.cells #[.string s] 9)) := al (al (Below.refl _ _) _) _
  have hszX : w.heap.size + 1 + 1 ≤ ((w.alloc (.cells #[.int .i64 0] 3)).alloc (.cells #[.string s] 9)).heap.size := by rw [World.size_alloc, World.size_alloc]; exact Nat.le_refl _
  obtain ⟨X, hX⟩ : ∃ X, (w.alloc (.cells #[.int .i64 0] 3)).alloc (.cells #[.string s] 9) = X := ⟨_, rfl⟩
  rw [hX] at B3 B4 hbX hszX ⊢
  clear hX
  refine (wpIn_wide (n := 9)).1 ?_
  refine' wpIn_rangeFunc_ownG rfl (by decide) (gf := 88) (lb := #[.pointer (some ⟨w.heap.size + 1, 0, none⟩)]) rfl trivial (enters_of Tryd.func88 (by kernel_rfl) rfl)
    (lall_stops (9 - 1) (by decide) (w.heap.size + 1) w HT.out s hs X hbX B4.cell) kpW_t (kpW_b (by omega) (by omega)) (Below.refl _ _) (fun _ => rfl)
    (fun (pre : List (Nat × Nat × Nat)) W => Boxed W w.heap.size 3 (.int .i64 (pre.length : Nat)) ∧ Boxed W (w.heap.size + 1) 9 (.string s) ∧ Below w.heap.size w W)
    (fun _ _ _ => False)
    (OwnFrom.and (Own.from (boxed_own _ _ (fun (pre : List (Nat × Nat × Nat)) => .int .i64 (pre.length : Nat))) _) (OwnFrom.and (Own.from (boxed_own _ _ (fun _ => .string s)) _) (ownFrom_below (Nat.le_refl _) (by omega))))
    (fun _ _ _ _ _ hs _ _ => hs)
    ⟨B3, B4, hbX⟩ _ ?assign ?body ?done ?stop
  case assign =>
    intro q x W K hK
    dsimp only [encLn]
    gi_wp2
    exact hK
  case body =>
    rintro q pre x W ⟨c3, c4, hbW⟩ hge
    have d3 := c3.cell
    have f3 := c3.frozen
    have hpl : pre.length ≤ 140737488351233 := by omega
    gi_wp2
    have hK2 := KeepsOthers.setCell W ⟨w.heap.size, 0, none⟩ (.int .i64 ((pre.length : Nat) + 1))
    have c3' := c3.set (.int .i64 ((pre.length : Nat) + 1))
    have c4' := c4.other (B' := w.heap.size) (by omega) (.int .i64 ((pre.length : Nat) + 1))
    refine ⟨hK2.from _, ⟨⟨hK2.walks, (Below.refl _ W).setCell (p := ⟨w.heap.size, 0, none⟩) (Nat.le_refl _) _⟩, Eq.trans c4' c4.symm⟩, ?_, c4', hbW.setCell (p := ⟨w.heap.size, 0, none⟩) (Nat.le_refl _) _⟩
    rw [List.length_append, List.length_singleton]
    exact c3'
  case stop =>
    rintro D cc pre' V hD _ h _
    exact h.elim
  case done =>
    rintro D ys V hD rfl ⟨c3, -, hbV⟩ hK
    have d3 := c3.cell
    go_wp2_with fail
    refine ⟨by simp, .inl ⟨_, _, rfl, run_takeDeferred hK, ?_⟩⟩
    refine ⟨.int .i64 (lnN (bs s) : Nat), ?_, rfl, hbV.trans (belowK_b (w := w) (Nat.le_refl _) _ D _ _ (by omega) hK rfl rfl)⟩
    simp [results, Tryd.f29, go_sem, lnN]
end Go.Proofs.YtfoppbignompkaaDoor
