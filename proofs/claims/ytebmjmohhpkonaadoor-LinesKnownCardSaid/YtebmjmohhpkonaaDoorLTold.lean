/-
  The lines that a range tells, at most so many: the contract of the law's told.
-/
import Derived.Test.YtebmjmohhpkonaaDoorLAllK
import Derived.Test.YtebmjmohhpkonaaDoorLWhere
import Derived.Test.YtebmjmohhpkonaaDoorLRefSplit
import Derived.Test.YtebmjmohhpkonaaDoorShelf
import Derived.Test.YtebmjmohhpkonaaDoorWrong
namespace Go.Proofs.YtebmjmohhpkonaaDoor
open Go.RowKit
attribute [local go_sem] Oper.semAt_some

/-- the row's values -/
def lnL (l : Bs) (pre : List Nat) : List Value := pre.flatMap fun k => lnCells (lnX l k)
theorem LnRow.owned {w : World} {base : Nat} {e : TypeId} {g n cap : Nat} {l : Bs} (h : w.ownsRow base e 3 (.slice (some ⟨g, 0, none⟩) n cap) n (lnL l (List.range n))) : LnRow w g n (lnX l) := by
  intro k hk
  have key : ∀ j, j < 3 → w.cell? ⟨g, k * 3 + j, none⟩ = (lnCells (lnX l k))[j]? := by
    intro j hj
    rw [h.cellAt (k * 3 + j) (by omega)]
    unfold lnL
    rw [flatRow_at (fun k => lnCells (lnX l k)) 3 (fun _ => rfl) _ k j (by simpa using hk) hj, List.getElem_range]
  exact ⟨key 0 (by omega), key 1 (by omega), key 2 (by omega)⟩

theorem not_nil (W : World) (p : Option Addr) : (binOp .eql 57 (.func (.func 37) #[] #[.pointer p]) .nilFunc).run Tryd.prog W = .ok (.bool false) W := by
  first | rfl | kernel_rfl
set_option maxRecDepth 10000 in
set_option maxHeartbeats 8000000 in
theorem told_any (s : ByteArray) (hs : s.size ≤ 1048576) (m : Nat) (hm1 : 1 ≤ m) (hm2 : m ≤ 140737488351232) (w : World) (hT : Tabs w) :
    Calls Tryd.prog 22 #[.string s, .int .i64 (m : Nat)] w fun e w' => ∃ n g cap, n = min m (lnN (bs s)) ∧ e = .returned (.slice (some ⟨g, 0, none⟩) n cap) ∧ w'.ownsRow w.heap.size 45 3 (.slice (some ⟨g, 0, none⟩) n cap) n (lnL (bs s) (List.range n)) ∧ Below w.heap.size w w' := by
  obtain ⟨i0, hi, hz0, hz1, hz2⟩ := info_parts info_line
  have HT := Lib.hid hT
  have hN := lnN_le (bs s)
  rw [← size_bs] at hN
  clear hT
  have hnf := not_nil
  refine callsIn_wide.1 (callsIn_of_wp_marks (n := 9) Tryd.func22 rfl trivial (wpIn_wide.2 ?_) rfl)
  simp only [Tryd.ntmps22, List.size_toArray, List.length_cons, List.length_nil, Nat.reduceAdd, Nat.reduceSub, Array.replicate_succ, Array.replicate_zero, List.push_toArray, List.append_toArray, List.nil_append, List.cons_append]
  go_wp2_with (first | (go_at_call 30; (with_reducible refine (lall_in s _).mono ?_); rintro e w2 ⟨rfl, rfl⟩))
  obtain ⟨X, hX⟩ : ∃ X, allocs w [.cells #[.int .i64 (m : Nat)] 3, .cells #[.slice none 0 0] 35, .cells #[.string s] 9] = X := ⟨_, rfl⟩
  have b0 : Boxed X w.heap.size 3 (.int .i64 (m : Nat)) := by rw [← hX]; exact allocs_get _ w 0 _ rfl
  have b1 : Boxed X (w.heap.size + 1) 35 (.slice none 0 0) := by rw [← hX]; exact allocs_get _ w 1 _ rfl
  have b2 : Boxed X (w.heap.size + 1 + 1) 9 (.string s) := by rw [← hX]; exact allocs_get _ w 2 _ rfl
  have hbX : Below w.heap.size w X := by rw [← hX]; exact allocs_below _ _ _ (Below.refl _ _)
  have hlt2 := b2.lt
  simp only [allocs] at hX
  rw [hX]
  clear hX
  have hstops := lallk_stops (9 - 1) (by decide) (w.heap.size + 1 + 1) w HT.out s (by omega) X hbX b2.cell
  refine (wpIn_wide (n := 9)).1 ?_
  refine' wpIn_rangeFunc_ownH rfl (by decide) (gf := 37) (lb := #[.pointer (some ⟨w.heap.size + 1 + 1, 0, none⟩)]) rfl trivial (enters_of Tryd.func37 (by kernel_rfl) rfl)
    hstops kpW_t (kpW_b (by omega) (by omega)) (Below.refl _ _) (fun _ => rfl)
    (fun (pre : List Nat) W => (pre.length < m) ∧ (∃ v, Boxed W (w.heap.size + 1) 35 v ∧ W.ownsRow X.heap.size 45 3 v pre.length (lnL (bs s) pre) ∧ True) ∧ Boxed W (w.heap.size + 1 + 1) 9 (.string s) ∧ Below (w.heap.size + 1) X W)
    (fun cc (pre : List Nat) W => (cc = .exit 0 ∧ pre.length = m) ∧ (∃ v, Boxed W (w.heap.size + 1) 35 v ∧ W.ownsRow X.heap.size 45 3 v pre.length (lnL (bs s) pre) ∧ True) ∧ Boxed W (w.heap.size + 1 + 1) 9 (.string s) ∧ Below (w.heap.size + 1) X W)
    (OwnFrom.and (ownFrom_pure _ (fun (pre : List Nat) => pre.length < m)) (OwnFrom.and (Own.from (holdsRow_own _ _ _ _ _ (fun (pre : List Nat) => pre.length) (fun (pre : List Nat) => lnL (bs s) pre) (fun _ _ => True)) _) (OwnFrom.and (Own.from (boxed_own _ _ (fun _ => .string s)) _) (ownFrom_below (by omega) (by omega)))))
    (fun cc => OwnFrom.and (ownFrom_pure _ (fun (pre : List Nat) => cc = .exit 0 ∧ pre.length = m)) (OwnFrom.and (Own.from (holdsRow_own _ _ _ _ _ (fun (pre : List Nat) => pre.length) (fun (pre : List Nat) => lnL (bs s) pre) (fun _ _ => True)) _) (OwnFrom.and (Own.from (boxed_own _ _ (fun _ => .string s)) _) (ownFrom_below (by omega) (by omega)))))
    ⟨by simp; omega, ⟨_, b1, World.ownsRow_nil _ _ _ _, trivial⟩, b2, Below.refl _ _⟩
    (LkAt (bs s) 41 X.heap.size (fun k p => ⟨#[.string s, .int .i64 (m : Nat), undef, .pointer (some ⟨w.heap.size, 0, none⟩), .slice none 0 0, .pointer (some ⟨w.heap.size + 1, 0, none⟩), .func (.func 37) #[] #[.pointer (some ⟨w.heap.size + 1 + 1, 0, none⟩)], .pointer (some ⟨p, 0, none⟩), .int .i64 ((lnX (bs s) k).2.2 : Nat), .string s, .func (.func 37) #[] #[.pointer (some ⟨w.heap.size + 1 + 1, 0, none⟩)], .func (.func 37) #[] #[.pointer (some ⟨w.heap.size + 1 + 1, 0, none⟩)], .bool false, undef, .func (.func 37) #[] #[.pointer (some ⟨w.heap.size + 1 + 1, 0, none⟩)], .agg #[.int .i64 ((lnX (bs s) k).1 : Nat), .int .i64 ((lnX (bs s) k).2.1 : Nat)], .int .i64 ((lnX (bs s) k).2.2 : Nat), undef, undef, undef, undef, undef, undef, undef, undef, undef, undef, undef], []⟩)) (fun x a => lkAt_own _ _ _ _ x a _) ?assign ?body ?done ?stop
  case assign =>
    rintro q pre x W K ⟨hp, ⟨v, c1, hrow, _⟩, c2, hbW⟩ hK
    dsimp only [encK, encLn]
    gi_wp2
    have hnew := Two.new W 41 (.int .i64 ((lnX (bs s) x).1 : Nat)) (.int .i64 ((lnX (bs s) x).2.1 : Nat))
    have hszW := hbW.size
    obtain ⟨p, hpp⟩ : ∃ p, W.heap.size = p := ⟨_, rfl⟩
    rw [hpp] at hnew hszW ⊢
    exact hK _ _ ((KeepsOthers.alloc W _).from _) ⟨⟨(KeepsOthers.alloc W _).walks, (Below.refl _ W).alloc (by omega) _⟩, (c2.alloc _).trans c2.symm⟩ ⟨hp, ⟨v, c1.alloc _, hrow.alloc _, trivial⟩, c2.alloc _, hbW.alloc (by omega) _⟩ ⟨p, hszW, hnew, rfl⟩
  case body =>
    rintro q pre x a' W hq hqr ⟨hp, ⟨v, c1, hrow, _⟩, c2, hbW⟩ ⟨p, hpX, tp, rfl⟩ hge
    have c0 : Boxed W w.heap.size 3 (.int .i64 (m : Nat)) := (hbW.block _ (by omega)).trans b0
    have d0 := c0.cell
    have d1 := c1.cell
    have f1 := c1.frozen
    have e0 := tp.cell0
    have e1 := tp.cell1
    have hpl : pre.length ≤ 1048577 := by omega
    have hszW := hbW.size
    have HR := Lib.hid (show lnL (bs s) (pre ++ [x]) = lnL (bs s) pre ++ lnCells (lnX (bs s) x) from by unfold lnL; rw [List.flatMap_append]; simp)
    dsimp only
    obtain ⟨y, hy⟩ : ∃ y, lnX (bs s) x = y := ⟨_, rfl⟩
    rw [hy] at e0 e1 HR ⊢
    have hB1 : w.heap.size + 1 < X.heap.size := by omega
    by_cases hg : pre.length + 1 < m
    · have hg1 : (pre.length : Int) + 1 < (m : Int) := by omega
      have hg2 : decide (m ≤ pre.length + 1) = false := decide_eq_false (by omega)
      gi_wp2_with (gi_at_builtin; refine wpListIn_append_own _ rfl _ _ 35 rfl X.heap.size 45 i0 (.agg #[.int .i64 0, .int .i64 0, .int .i64 0]) 3 24 Tryd.underlying35 hi hz0 hz1 hz2 rfl (by decide) _ _ _ rfl (hrow.alloc _) ⟨W.heap.size, 0, none⟩ 1 1 (lnCells y) rfl (by simp [lnCells]) (cells_new _ _ _) (lnCells_one _) (by unfold maxLen; omega) (by omega) (by rw [World.size_alloc]; exact Nat.le_succ_of_le hszW) ?_; intro v2 w2 hown2 hgrow2 _; obtain ⟨g2, cap2, rfl⟩ := ownsRow_succ hown2; obtain ⟨hv1, hv2, hr2, hk2, hb2, hoth⟩ := app_box (n₀ := w.heap.size + 1) c1 (by omega) hrow hszW (Nat.le_refl _) hown2 hgrow2; have hc1 := hv1.cell; have hf1 := hv1.frozen; have hc2 := hv2.cell; have c0Y := hoth w.heap.size 3 (.int .i64 (m : Nat)) (by omega) (by omega) c0; have d0Y := c0Y.cell)
      have c2Y := hoth (w.heap.size + 1 + 1) 9 (.string s) (by omega) (by omega) c2
      exact ⟨hk2.from _, ⟨⟨hk2.walks, hb2.mono (Nat.le_succ _)⟩, Eq.trans c2Y c2.symm⟩, by rw [List.length_append, List.length_singleton]; exact hg, ⟨_, hv2, by rw [List.length_append, List.length_singleton, HR.out]; exact hr2, trivial⟩, c2Y, hbW.trans hb2⟩
    · have hg1 : (m : Int) ≤ (pre.length : Int) + 1 := by omega
      have hg2 : decide (m ≤ pre.length + 1) = true := decide_eq_true (by omega)
      gi_wp2_with (gi_at_builtin; refine wpListIn_append_own _ rfl _ _ 35 rfl X.heap.size 45 i0 (.agg #[.int .i64 0, .int .i64 0, .int .i64 0]) 3 24 Tryd.underlying35 hi hz0 hz1 hz2 rfl (by decide) _ _ _ rfl (hrow.alloc _) ⟨W.heap.size, 0, none⟩ 1 1 (lnCells y) rfl (by simp [lnCells]) (cells_new _ _ _) (lnCells_one _) (by unfold maxLen; omega) (by omega) (by rw [World.size_alloc]; exact Nat.le_succ_of_le hszW) ?_; intro v2 w2 hown2 hgrow2 _; obtain ⟨g2, cap2, rfl⟩ := ownsRow_succ hown2; obtain ⟨hv1, hv2, hr2, hk2, hb2, hoth⟩ := app_box (n₀ := w.heap.size + 1) c1 (by omega) hrow hszW (Nat.le_refl _) hown2 hgrow2; have hc1 := hv1.cell; have hf1 := hv1.frozen; have hc2 := hv2.cell; have c0Y := hoth w.heap.size 3 (.int .i64 (m : Nat)) (by omega) (by omega) c0; have d0Y := c0Y.cell)
      have c2Y := hoth (w.heap.size + 1 + 1) 9 (.string s) (by omega) (by omega) c2
      exact ⟨hk2.from _, ⟨rfl, by rw [List.length_append, List.length_singleton]; omega⟩, ⟨_, hv2, by rw [List.length_append, List.length_singleton, HR.out]; exact hr2, trivial⟩, c2Y, hbW.trans hb2⟩
  case stop =>
    rintro D cc pre' V hD ⟨k', hk', rfl⟩ ⟨⟨rfl, hc⟩, ⟨v, c1, hrow, _⟩, c2, hbV⟩ hK
    rw [List.length_range] at hc hrow
    have HM := Lib.hid (show k' = min m (lnN (bs s)) by omega)
    have hN1 : 1 ≤ k' := by omega
    have hN2 : k' ≤ 1048577 := by omega
    clear hc hm1 hm2 hk'
    refine wpIn_wide.2 ?_
    obtain ⟨n', rfl⟩ : ∃ n', k' = n' + 1 := ⟨k' - 1, by omega⟩
    obtain ⟨g, cap, rfl⟩ := ownsRow_succ hrow
    obtain ⟨v2, c3, hrow2, h2⟩ := (holdsRow_own X.heap.size (w.heap.size + 1) 35 45 3 (fun (_ : Unit) => n' + 1) (fun _ => lnL (bs s) (List.range (n' + 1))) (fun _ v => v = .slice (some ⟨g, 0, none⟩) (n' + 1) cap)).putObj (s := ()) (.deferred none) ⟨_, c1, hrow, rfl⟩ hK rfl
    subst h2
    have d1 := c1.cell
    obtain ⟨n, hn⟩ : ∃ n, n' + 1 = n := ⟨_, rfl⟩
    rw [hn] at d1 hrow2 HM
    have HR := Lib.hid hrow2
    clear hrow hrow2 hn hN1 c3
    go_wp2_with fail
    refine ⟨by simp, .inl ⟨_, _, rfl, run_takeDeferred hK, ?_⟩⟩
    refine ⟨.slice (some ⟨g, 0, none⟩) n cap, ?_, ⟨n, g, cap, HM.out, rfl, owns_base HR.out hbX.size, hbX.trans ((hbV.mono (by omega)).trans (belowK_b (w := w) (Nat.le_refl _) _ D _ _ (by omega) hK rfl rfl))⟩⟩
    simp [results, Tryd.f22, go_sem]
  case done =>
    rintro D ys V hD rfl ⟨hp, ⟨v, c1, hrow, _⟩, c2, hbV⟩ hK
    rw [List.length_range] at hrow hp
    have hN1 := lnN_pos (bs s)
    obtain ⟨k', hn⟩ : ∃ n, lnN (bs s) = n := ⟨_, rfl⟩
    rw [hn] at hrow hN1 hN hp
    have HM := Lib.hid (show k' = min m (lnN (bs s)) by omega)
    have hN2 : k' ≤ 1048577 := by omega
    clear hn hp hm1 hm2
    obtain ⟨n', rfl⟩ : ∃ n', k' = n' + 1 := ⟨k' - 1, by omega⟩
    obtain ⟨g, cap, rfl⟩ := ownsRow_succ hrow
    obtain ⟨v2, c3, hrow2, h2⟩ := (holdsRow_own X.heap.size (w.heap.size + 1) 35 45 3 (fun (_ : Unit) => n' + 1) (fun _ => lnL (bs s) (List.range (n' + 1))) (fun _ v => v = .slice (some ⟨g, 0, none⟩) (n' + 1) cap)).putObj (s := ()) (.deferred none) ⟨_, c1, hrow, rfl⟩ hK rfl
    subst h2
    have d1 := c1.cell
    obtain ⟨n, hn⟩ : ∃ n, n' + 1 = n := ⟨_, rfl⟩
    rw [hn] at d1 hrow2 HM
    have HR := Lib.hid hrow2
    clear hrow hrow2 hn hN1 c3
    go_wp2_with fail
    refine ⟨by simp, .inl ⟨_, _, rfl, run_takeDeferred hK, ?_⟩⟩
    refine ⟨.slice (some ⟨g, 0, none⟩) n cap, ?_, ⟨n, g, cap, HM.out, rfl, owns_base HR.out hbX.size, hbX.trans ((hbV.mono (by omega)).trans (belowK_b (w := w) (Nat.le_refl _) _ D _ _ (by omega) hK rfl rfl))⟩⟩
    simp [results, Tryd.f22, go_sem]
end Go.Proofs.YtebmjmohhpkonaaDoor
