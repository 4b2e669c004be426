/-
  A line by its number: the contract of Line.
-/
import Derived.Test.YtfoppbignompkaaDoorLAll
import Derived.Test.YtfoppbignompkaaDoorBox
namespace Go.Proofs.YtfoppbignompkaaDoor
open Go.RowKit
attribute [local go_sem] Oper.semAt_some

/-- what Line answers -/
def LineIs (l : Bs) (c a b n e : Int) : Prop :=
  (∃ k : Nat, k < lnN l ∧ c = (k : Int) ∧ a = (lnA l k : Nat) ∧ b = (lnB l k : Nat) ∧ n = (lnE l k : Nat) ∧ e = 0) ∨ ((c < 0 ∨ (lnN l : Int) ≤ c) ∧ a = 0 ∧ b = 0 ∧ n = 0 ∧ e = 6)
/-- a frame with a line's variables in it -/
def LnAt (T : TypeId) (B : Nat) (f : Nat × Nat × Nat → Nat → Act) (x : Nat × Nat × Nat) (a : Act) (W : World) : Prop := ∃ p, B ≤ p ∧ Two W p T (.int .i64 (x.1 : Nat)) (.int .i64 (x.2.1 : Nat)) ∧ a = f x p
theorem lnAt_own (T : TypeId) (B : Nat) (f : Nat × Nat × Nat → Nat → Act) (x : Nat × Nat × Nat) (a : Act) (C : Nat) : OwnFrom C (fun (_ : Unit) W => LnAt T B f x a W) := by
  rintro s W W' row ⟨p, h1, h2, h3⟩ hg hr
  exact ⟨p, h1, two_own (β := Unit) p T (fun _ => .int .i64 (x.1 : Nat)) (fun _ => .int .i64 (x.2.1 : Nat)) () W W' row h2 hg (fun r e => (hr r e).2), h3⟩

/-- the last line that was told -/
def lstLn (pre : List (Nat × Nat × Nat)) : Nat × Nat × Nat := pre.getLast?.getD (0, 0, 0)
theorem lst_snoc (pre : List (Nat × Nat × Nat)) (x : Nat × Nat × Nat) : lstLn (pre ++ [x]) = x := by unfold lstLn; rw [List.getLast?_append]; rfl
theorem lst_take {L : List (Nat × Nat × Nat)} {k : Nat} (h : k < L.length) : lstLn (L.take (k + 1)) = L[k]?.getD (0, 0, 0) := by
  rw [List.take_succ_eq_append_getElem h, lst_snoc, List.getElem?_eq_getElem h]
  rfl

set_option maxRecDepth 10000 in
set_option maxHeartbeats 4000000 in
theorem lline_is (s : ByteArray) (hs : s.size ≤ 140737488351232) (c : Int) (w : World) (hT : Tabs w) :
    Calls Tryd.prog 26 #[.string s, .int .i64 c] w fun e w' => (∃ a b n er, e = .returned (.tuple #[.agg #[.int .i64 a, .int .i64 b], .int .i64 n, .int .i64 er]) ∧ LineIs (bs s) c a b n er) ∧ Below w.heap.size w w' := by
  have HT := Lib.hid hT
  have hN := lnN_le (bs s)
  rw [← size_bs] at hN
  clear hT
  refine callsIn_wide.1 (callsIn_of_wp_marks (n := 9) Tryd.func26 rfl trivial (wpIn_wide.2 ?_) rfl)
  simp only [Tryd.ntmps26, List.size_toArray, List.length_cons, List.length_nil, Nat.reduceAdd, Nat.reduceSub, Array.replicate_succ, Array.replicate_zero, List.push_toArray, List.append_toArray, List.nil_append, List.cons_append]
  go_wp2_with (first | (go_at_call 54; (with_reducible refine (lall_in s _).mono ?_); rintro e w2 ⟨rfl, rfl⟩))
  obtain ⟨X, hX⟩ : ∃ X, allocs w [.cells #[.int .i64 c] 3, .cells #[.int .i64 0, .int .i64 0] 49, .cells #[.int .i64 0] 3, .cells #[.int .i64 0] 26, .cells #[.int .i64 0] 3, .cells #[.string s] 9] = X := ⟨_, rfl⟩
  have b0 : Boxed X w.heap.size 3 (.int .i64 c) := by rw [← hX]; exact allocs_get _ w 0 _ rfl
  have t1 : Two X (w.heap.size + 1) 49 (.int .i64 0) (.int .i64 0) := by rw [← hX]; exact allocs_get _ w 1 _ rfl
  have b2 : Boxed X (w.heap.size + 1 + 1) 3 (.int .i64 0) := by rw [← hX]; exact allocs_get _ w 2 _ rfl
  have b3 : Boxed X (w.heap.size + 1 + 1 + 1) 26 (.int .i64 0) := by rw [← hX]; exact allocs_get _ w 3 _ rfl
  have b4 : Boxed X (w.heap.size + 1 + 1 + 1 + 1) 3 (.int .i64 0) := by rw [← hX]; exact allocs_get _ w 4 _ rfl
  have b5 : Boxed X (w.heap.size + 1 + 1 + 1 + 1 + 1) 9 (.string s) := by rw [← hX]; exact allocs_get _ w 5 _ rfl
  have hbX : Below w.heap.size w X := by rw [← hX]; exact allocs_below _ _ _ (Below.refl _ _)
  have hlt5 := b5.lt
  simp only [allocs] at hX
  rw [hX]
  clear hX
  have hstops := lall_stops (9 - 1) (by decide) (w.heap.size + 1 + 1 + 1 + 1 + 1) w HT.out s hs X hbX b5.cell
  refine (wpIn_wide (n := 9)).1 ?_
  refine' wpIn_rangeFunc_ownH rfl (by decide) (gf := 88) (lb := #[.pointer (some ⟨w.heap.size + 1 + 1 + 1 + 1 + 1, 0, none⟩)]) rfl trivial (enters_of Tryd.func88 (by kernel_rfl) rfl)
    hstops kpW_t (kpW_b (by omega) (by omega)) (Below.refl _ _) (fun _ => rfl)
    (fun (pre : List (Nat × Nat × Nat)) W => (c < 0 ∨ (pre.length : Int) ≤ c) ∧ Boxed W (w.heap.size + 1 + 1 + 1 + 1) 3 (.int .i64 (pre.length : Nat)) ∧ Boxed W (w.heap.size + 1 + 1 + 1 + 1 + 1) 9 (.string s) ∧ Below (w.heap.size + 1 + 1 + 1 + 1) X W)
    (fun cc (pre' : List (Nat × Nat × Nat)) W => (cc = .ret ∧ 0 ≤ c ∧ (pre'.length : Int) = c + 1) ∧ Two W (w.heap.size + 1) 49 (.int .i64 ((lstLn pre').1 : Nat)) (.int .i64 ((lstLn pre').2.1 : Nat)) ∧ Boxed W (w.heap.size + 1 + 1) 3 (.int .i64 ((lstLn pre').2.2 : Nat)) ∧ Boxed W (w.heap.size + 1 + 1 + 1) 26 (.int .i64 0) ∧ Below w.heap.size w W)
    (OwnFrom.and (ownFrom_pure _ (fun (pre : List (Nat × Nat × Nat)) => c < 0 ∨ (pre.length : Int) ≤ c)) (OwnFrom.and (Own.from (boxed_own _ _ (fun (pre : List (Nat × Nat × Nat)) => .int .i64 (pre.length : Nat))) _) (OwnFrom.and (Own.from (boxed_own _ _ (fun _ => .string s)) _) (ownFrom_below (by omega) (by omega)))))
    (fun cc => OwnFrom.and (ownFrom_pure _ (fun (pre : List (Nat × Nat × Nat)) => cc = .ret ∧ 0 ≤ c ∧ (pre.length : Int) = c + 1)) (OwnFrom.and (Own.from (two_own _ _ (fun (pre : List (Nat × Nat × Nat)) => .int .i64 ((lstLn pre).1 : Nat)) (fun pre => .int .i64 ((lstLn pre).2.1 : Nat))) _) (OwnFrom.and (Own.from (boxed_own _ _ (fun pre => .int .i64 ((lstLn pre).2.2 : Nat))) _) (OwnFrom.and (Own.from (boxed_own _ _ (fun _ => .int .i64 0)) _) (ownFrom_below (Nat.le_refl _) (by omega))))))
    ⟨by simp; omega, b4, b5, Below.refl _ _⟩
    (LnAt 49 X.heap.size (fun x p => ⟨#[.string s, .int .i64 c, undef, .pointer (some ⟨w.heap.size, 0, none⟩), .pointer (some ⟨w.heap.size + 1, 0, none⟩), .pointer (some ⟨w.heap.size + 1 + 1, 0, none⟩), .pointer (some ⟨w.heap.size + 1 + 1 + 1, 0, none⟩), .pointer (some ⟨w.heap.size + 1 + 1 + 1 + 1, 0, none⟩), .pointer (some ⟨p, 0, none⟩), .int .i64 (x.2.2 : Nat), .string s, .func (.func 88) #[] #[.pointer (some ⟨w.heap.size + 1 + 1 + 1 + 1 + 1, 0, none⟩)], .agg #[.int .i64 (x.1 : Nat), .int .i64 (x.2.1 : Nat)], .int .i64 (x.2.2 : Nat), undef, undef, undef, undef, undef, undef, undef, undef], []⟩)) (fun x a => lnAt_own _ _ _ x a _) ?assign ?body ?done ?stop
  case assign =>
    rintro q pre x W K ⟨hp, c4, c5, hbW⟩ hK
    dsimp only [encLn]
    gi_wp2
    have hnew := Two.new W 49 (.int .i64 (x.1 : Nat)) (.int .i64 (x.2.1 : Nat))
    have hszW := hbW.size
    obtain ⟨p, hpp⟩ : ∃ p, W.heap.size = p := ⟨_, rfl⟩
    rw [hpp] at hnew hszW ⊢
    exact hK _ _ ((KeepsOthers.alloc W _).from _) ⟨⟨(KeepsOthers.alloc W _).walks, (Below.refl _ W).alloc (by omega) _⟩, (c5.alloc _).trans c5.symm⟩ ⟨hp, c4.alloc _, c5.alloc _, hbW.alloc (by omega) _⟩ ⟨p, hszW, hnew, rfl⟩
  case body =>
    rintro q pre x a' W hq hqr ⟨hp, c4, c5, hbW⟩ ⟨p, hpX, tp, rfl⟩ hge
    have c0 : Boxed W w.heap.size 3 (.int .i64 c) := (hbW.block _ (by omega)).trans b0
    have s1 : Two W (w.heap.size + 1) 49 (.int .i64 0) (.int .i64 0) := (hbW.block _ (by omega)).trans t1
    have c2 : Boxed W (w.heap.size + 1 + 1) 3 (.int .i64 0) := (hbW.block _ (by omega)).trans b2
    have c3 : Boxed W (w.heap.size + 1 + 1 + 1) 26 (.int .i64 0) := (hbW.block _ (by omega)).trans b3
    have d0 := c0.cell
    have d10 := s1.cell0
    have d11 := s1.cell1
    have f10 := s1.frozen0
    have f11 := s1.frozen1
    have d2 := c2.cell
    have f2 := c2.frozen
    have d3 := c3.cell
    have f3 := c3.frozen
    have d4 := c4.cell
    have f4 := c4.frozen
    have e0 := tp.cell0
    have e1 := tp.cell1
    have hpl : pre.length ≤ 140737488351233 := by omega
    dsimp only
    by_cases he : (pre.length : Int) = c
    · have he1 : ((pre.length : Int) == c) = true := beq_iff_eq.2 he
      have HE := Lib.hid he
      clear he
      gi_wp2
      have hK2 := (((KeepsOthers.setCell W ⟨w.heap.size + 1, 0, none⟩ (.int .i64 (x.1 : Nat))).trans (KeepsOthers.setCell _ ⟨w.heap.size + 1, 1, none⟩ (.int .i64 (x.2.1 : Nat)))).trans (KeepsOthers.setCell _ ⟨w.heap.size + 1 + 1, 0, none⟩ (.int .i64 (x.2.2 : Nat)))).trans (KeepsOthers.setCell _ ⟨w.heap.size + 1 + 1 + 1, 0, none⟩ (.int .i64 0))
      refine ⟨hK2.from _, ⟨rfl, by have := HE.out; omega, by rw [List.length_append, List.length_singleton]; have := HE.out; omega⟩, ?_⟩
      rw [lst_snoc]
      exact ⟨(((s1.set0 _).set1 _).other (by omega) _ _).other (by omega) _ _, boxOther ((boxOther (boxOther c2 (by omega) _ _) (by omega) _ _).set _) (by omega) _ _, (boxOther (boxOther (boxOther c3 (by omega) _ _) (by omega) _ _) (by omega) _ _).set _,
        ((((hbX.trans (hbW.mono (by omega))).setCell (p := ⟨w.heap.size + 1, 0, none⟩) (Nat.le_succ _) _).setCell (p := ⟨w.heap.size + 1, 1, none⟩) (Nat.le_succ _) _).setCell (p := ⟨w.heap.size + 1 + 1, 0, none⟩) (by simp only; omega) _).setCell (p := ⟨w.heap.size + 1 + 1 + 1, 0, none⟩) (by simp only; omega) _⟩
    · have he1 : ((pre.length : Int) == c) = false := beq_eq_false_iff_ne.2 he
      have HP := Lib.hid (show c < 0 ∨ ((pre ++ [x]).length : Int) ≤ c by rw [List.length_append, List.length_singleton]; omega)
      gi_wp2
      have hK2 := KeepsOthers.setCell W ⟨w.heap.size + 1 + 1 + 1 + 1, 0, none⟩ (.int .i64 ((pre.length : Nat) + 1))
      refine ⟨hK2.from _, ⟨⟨hK2.walks, (Below.refl _ W).setCell (p := ⟨w.heap.size + 1 + 1 + 1 + 1, 0, none⟩) (by simp only; omega) _⟩, Eq.trans (boxOther c5 (B' := w.heap.size + 1 + 1 + 1 + 1) (by omega) 0 _) c5.symm⟩, HP.out, ?_, boxOther c5 (by omega) _ _, hbW.setCell (p := ⟨w.heap.size + 1 + 1 + 1 + 1, 0, none⟩) (Nat.le_refl _) _⟩
      rw [List.length_append, List.length_singleton]
      exact c4.set _
  case stop =>
    rintro D cc pre' V hD ⟨k', hk', rfl⟩ ⟨⟨rfl, hc0, hc⟩, s1, c2, c3, hbV⟩ hK
    have hl : ((linesL (bs s)).take k').length = k' := by rw [List.length_take]; exact Nat.min_eq_left hk'
    rw [hl] at hc
    obtain ⟨k, rfl⟩ : ∃ k, k' = k + 1 := ⟨k' - 1, by omega⟩
    rw [lst_take (show k < (linesL (bs s)).length from hk')] at s1 c2
    have HL := Lib.hid (show LineIs (bs s) c (lnA (bs s) k : Nat) (lnB (bs s) k : Nat) (lnE (bs s) k : Nat) 0 from .inl ⟨k, hk', by omega, rfl, rfl, rfl, rfl⟩)
    have hneD : ∀ i, i < X.heap.size → i ≠ D := fun i hi => by omega
    have s1' : Two (V.putObj D (.deferred none)) (w.heap.size + 1) 49 (.int .i64 (lnA (bs s) k : Nat)) (.int .i64 (lnB (bs s) k : Nat)) := (World.putObj_heap_other (by omega)).trans s1
    have c2' : Boxed (V.putObj D (.deferred none)) (w.heap.size + 1 + 1) 3 (.int .i64 (lnE (bs s) k : Nat)) := (World.putObj_heap_other (by omega)).trans c2
    have c3' : Boxed (V.putObj D (.deferred none)) (w.heap.size + 1 + 1 + 1) 26 (.int .i64 0) := (World.putObj_heap_other (by omega)).trans c3
    have g0 := s1'.cell0
    have g1 := s1'.cell1
    have g2 := c2'.cell
    have g3 := c3'.cell
    clear hc s1 c2 c3
    refine wpIn_wide.2 ?_
    go_wp2_with fail
    refine ⟨by simp, .inl ⟨_, _, rfl, run_takeDeferred hK, ?_⟩⟩
    refine ⟨.tuple #[.agg #[.int .i64 (lnA (bs s) k : Nat), .int .i64 (lnB (bs s) k : Nat)], .int .i64 (lnE (bs s) k : Nat), .int .i64 0], ?_, ⟨_, _, _, _, rfl, HL.out⟩, hbV.trans (belowK_b (w := w) (Nat.le_refl _) _ D _ _ (by omega) hK rfl rfl)⟩
    simp [results, Tryd.f26, go_sem, g0, g1, g2, g3]
  case done =>
    rintro D ys V hD rfl ⟨hp, c4, c5, hbV⟩ hK
    have HL := Lib.hid (show LineIs (bs s) c 0 0 0 6 from .inr ⟨hp, rfl, rfl, rfl, rfl⟩)
    have s1 : Two V (w.heap.size + 1) 49 (.int .i64 0) (.int .i64 0) := (hbV.block _ (by omega)).trans t1
    have c2 : Boxed V (w.heap.size + 1 + 1) 3 (.int .i64 0) := (hbV.block _ (by omega)).trans b2
    have c3 : Boxed V (w.heap.size + 1 + 1 + 1) 26 (.int .i64 0) := (hbV.block _ (by omega)).trans b3
    have d10 := s1.cell0
    have d11 := s1.cell1
    have f10 := s1.frozen0
    have f11 := s1.frozen1
    have d2 := c2.cell
    have f2 := c2.frozen
    have d3 := c3.cell
    have f3 := c3.frozen
    clear hp
    go_wp2_with fail
    have hk2 := ((((KeepsOthers.setCell V ⟨w.heap.size + 1, 0, none⟩ (.int .i64 0)).trans (KeepsOthers.setCell _ ⟨w.heap.size + 1, 1, none⟩ (.int .i64 0))).trans (KeepsOthers.setCell _ ⟨w.heap.size + 1 + 1, 0, none⟩ (.int .i64 0))).trans (KeepsOthers.setCell _ ⟨w.heap.size + 1 + 1 + 1, 0, none⟩ (.int .i64 6))).same D _ hK rfl
    have r1 := ((((s1.set0 (.int .i64 0)).set1 (.int .i64 0)).other (B' := w.heap.size + 1 + 1) (by omega) 0 (.int .i64 0)).other (B' := w.heap.size + 1 + 1 + 1) (by omega) 0 (.int .i64 6))
    have r2 := boxOther ((boxOther (boxOther c2 (B' := w.heap.size + 1) (by omega) 0 (.int .i64 0)) (B' := w.heap.size + 1) (by omega) 1 (.int .i64 0)).set (.int .i64 0)) (B' := w.heap.size + 1 + 1 + 1) (by omega) 0 (.int .i64 6)
    have r3 := (boxOther (boxOther (boxOther c3 (B' := w.heap.size + 1) (by omega) 0 (.int .i64 0)) (B' := w.heap.size + 1) (by omega) 1 (.int .i64 0)) (B' := w.heap.size + 1 + 1) (by omega) 0 (.int .i64 0)).set (.int .i64 6)
    have hb2 := ((((hbX.trans (hbV.mono (by omega))).setCell (p := ⟨w.heap.size + 1, 0, none⟩) (Nat.le_succ _) (.int .i64 0)).setCell (p := ⟨w.heap.size + 1, 1, none⟩) (Nat.le_succ _) (.int .i64 0)).setCell (p := ⟨w.heap.size + 1 + 1, 0, none⟩) (by simp only; omega) (.int .i64 0)).setCell (p := ⟨w.heap.size + 1 + 1 + 1, 0, none⟩) (by simp only; omega) (.int .i64 6)
    obtain ⟨W5, hW5⟩ : ∃ W5, (((V.setCell ⟨w.heap.size + 1, 0, none⟩ (.int .i64 0)).setCell ⟨w.heap.size + 1, 1, none⟩ (.int .i64 0)).setCell ⟨w.heap.size + 1 + 1, 0, none⟩ (.int .i64 0)).setCell ⟨w.heap.size + 1 + 1 + 1, 0, none⟩ (.int .i64 6) = W5 := ⟨_, rfl⟩
    rw [hW5] at hk2 r1 r2 r3 hb2 ⊢
    have s1' : Two (W5.putObj D (.deferred none)) (w.heap.size + 1) 49 (.int .i64 0) (.int .i64 0) := (World.putObj_heap_other (by omega)).trans r1
    have c2' : Boxed (W5.putObj D (.deferred none)) (w.heap.size + 1 + 1) 3 (.int .i64 0) := (World.putObj_heap_other (by omega)).trans r2
    have c3' : Boxed (W5.putObj D (.deferred none)) (w.heap.size + 1 + 1 + 1) 26 (.int .i64 6) := (World.putObj_heap_other (by omega)).trans r3
    have g0 := s1'.cell0
    have g1 := s1'.cell1
    have g2 := c2'.cell
    have g3 := c3'.cell
    refine ⟨by simp, .inl ⟨_, _, rfl, run_takeDeferred hk2, ?_⟩⟩
    refine ⟨.tuple #[.agg #[.int .i64 0, .int .i64 0], .int .i64 0, .int .i64 6], ?_, ⟨_, _, _, _, rfl, HL.out⟩, hb2.trans (belowK_b (w := w) (Nat.le_refl _) _ D _ _ (by omega) hk2 rfl rfl)⟩
    simp [results, Tryd.f26, go_sem, g0, g1, g2, g3]

/-- a line that is there -/
theorem lline_at (s : ByteArray) (hs : s.size ≤ 140737488351232) (k : Nat) (hk : k < lnN (bs s)) (w : World) (hT : Tabs w) :
    Calls Tryd.prog 26 #[.string s, .int .i64 (k : Nat)] w fun e w' => e = .returned (.tuple #[.agg #[.int .i64 (lnA (bs s) k : Nat), .int .i64 (lnB (bs s) k : Nat)], .int .i64 (lnE (bs s) k : Nat), .int .i64 0]) ∧ Below w.heap.size w w' := by
  refine (lline_is s hs (k : Nat) w hT).mono ?_
  rintro e w' ⟨⟨a, b, n, er, rfl, h⟩, hb⟩
  refine ⟨?_, hb⟩
  rcases h with ⟨k', hk', e1, rfl, rfl, rfl, rfl⟩ | ⟨h, _⟩
  · obtain rfl : k = k' := by omega
    rfl
  · omega
/-- none is there -/
theorem lline_out (s : ByteArray) (hs : s.size ≤ 140737488351232) (c : Int) (hc : c < 0 ∨ (lnN (bs s) : Int) ≤ c) (w : World) (hT : Tabs w) :
    Calls Tryd.prog 26 #[.string s, .int .i64 c] w fun e w' => e = .returned (.tuple #[.agg #[.int .i64 0, .int .i64 0], .int .i64 0, .int .i64 6]) ∧ Below w.heap.size w w' := by
  refine (lline_is s hs c w hT).mono ?_
  rintro e w' ⟨⟨a, b, n, er, rfl, h⟩, hb⟩
  refine ⟨?_, hb⟩
  rcases h with ⟨k', hk', e1, _⟩ | ⟨_, rfl, rfl, rfl, rfl⟩
  · omega
  · rfl
end Go.Proofs.YtfoppbignompkaaDoor
