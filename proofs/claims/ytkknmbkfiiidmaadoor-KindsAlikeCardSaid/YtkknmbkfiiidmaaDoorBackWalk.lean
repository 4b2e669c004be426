/-
  Back, from word to word: its walk.
-/
import Derived.Test.YtkknmbkfiiidmaaDoorBackw
namespace Go.Proofs.YtkknmbkfiiidmaaDoor
open Go.RowKit
attribute [local go_sem] Oper.semAt_some

set_option maxRecDepth 10000 in
set_option maxHeartbeats 4000000 in
theorem kback_any (s : ByteArray) (hs : s.size ≤ 140737488351232) (c : Int) (w : World) (hT : Tabs w) :
    Calls Tryd.prog 25 #[.string s, .int .i64 c] w fun e w' => e = .returned (.int .i64 (backV (bs s) (intoM (bs s) c) : Nat)) ∧ Below w.heap.size w w' := by
  have HT := Lib.hid hT
  have HI := Lib.hid (fun w hT => into_any s hs c w hT)
  obtain ⟨hm, -, -, -, -⟩ := into_find (bs s) c
  obtain ⟨m, hmm⟩ : ∃ m, intoM (bs s) c = m := ⟨_, rfl⟩
  rw [hmm] at HI hm ⊢
  obtain ⟨l, hl⟩ : ∃ l, bs s = l := ⟨_, rfl⟩
  have hls : l.length = s.size := by rw [← hl, size_bs]
  rw [hl] at HI hm ⊢
  have HM := Lib.hid hm
  have HEND := Lib.hid (fun hq => back_end l m hm hq)
  have HSTOP := Lib.hid (fun k (hk : k ≤ m) pre x e hq h1 h2 => back_stop l m k hm hk (pre := pre) (x := x) e hq h1 h2)
  have htc := take_count l m hm
  have hAl : atN l m ≤ l.length := (cut_at l m hm).1
  obtain ⟨A, hA⟩ : ∃ A, atN l m = A := ⟨_, rfl⟩
  rw [hA] at HI hAl HEND HSTOP htc
  have hS : bs (s.extract 0 A) = l.take A := by rw [bs_take, hl]
  obtain ⟨R, hSS⟩ : ∃ R, s.extract 0 A = R := ⟨_, rfl⟩
  rw [hSS] at hS
  have hSz : R.size = A := by rw [size_bs, hS, List.length_take]; omega
  have HS := Lib.hid hS
  have HTC := Lib.hid htc
  have HSZ := Lib.hid hSz
  have hAs : A ≤ s.size := by omega
  have hRs : R.size ≤ 140737488351232 := by omega
  clear hT hmm hl hS htc hA hm hSz hAl hls
  refine callsIn_wide.1 (callsIn_of_wp_marks (n := 9) Tryd.func25 rfl trivial (wpIn_wide.2 ?_) rfl)
  simp only [Tryd.ntmps25, List.size_toArray, List.length_cons, List.length_nil, Nat.reduceAdd, Nat.reduceSub, Array.replicate_succ, Array.replicate_zero, List.push_toArray, List.append_toArray, List.nil_append, List.cons_append]
  have a4 := Boxed.new w 3 (.int .i64 0)
  have hbA : Below w.heap.size w (w.alloc (.cells #[.int .i64 0] 3)) := al (Below.refl _ _) _
  go_wp2_with (first
    | (go_at_call 41; (with_reducible refine (HI.out _ (HT.out.below hbA (Nat.le_refl _))).mono ?_); rintro e w1 ⟨rfl, hb1⟩)
    | (go_at_call 45; (with_reducible refine (back_in R _).mono ?_); rintro e w2 ⟨rfl, rfl⟩))
  clear hSS
  have hbw : Below w.heap.size w w1 := hbA.trans (hb1.mono hbA.size)
  have b4c : Boxed w1 w.heap.size 3 (.int .i64 0) := (hb1.block _ a4.lt).trans a4
  have hlt4 := b4c.lt
  have B5 := ((Boxed.new w1 3 (.int .i64 (R.size : Nat))).alloc (.cells #[.int .i64 0] 3)).alloc (.cells #[.string R] 9)
  have B6 := (Boxed.new (w1.alloc (.cells #[.int .i64 (R.size : Nat)] 3)) 3 (.int .i64 0)).alloc (.cells #[.string R] 9)
  have B7 := Boxed.new ((w1.alloc (.cells #[.int .i64 (R.size : Nat)] 3)).alloc (.cells #[.int .i64 0] 3)) 9 (.string R)
  rw [World.size_alloc] at B6
  rw [World.size_alloc, World.size_alloc] at B7
  have hbX : Below w1.heap.size w1 (((w1.alloc (.cells #[.int .i64 (R.size : Nat)] 3)).alloc (.cells #[.int .i64 0] 3)).alloc (.cells #[.string R] 9)) := al (al (al (Below.refl _ _) _) _) _
  have hszX : w1.heap.size + 1 + 1 + 1 ≤ (((w1.alloc (.cells #[.int .i64 (R.size : Nat)] 3)).alloc (.cells #[.int .i64 0] 3)).alloc (.cells #[.string R] 9)).heap.size := by rw [World.size_alloc, World.size_alloc, World.size_alloc]; exact Nat.le_refl _
  obtain ⟨X, hX⟩ : ∃ X, ((w1.alloc (.cells #[.int .i64 (R.size : Nat)] 3)).alloc (.cells #[.int .i64 0] 3)).alloc (.cells #[.string R] 9) = X := ⟨_, rfl⟩
  rw [hX] at B5 B6 B7 hbX hszX ⊢
  clear hX a4 hbA hb1
  have hst := back_stops (9 - 1) (by decide) (w1.heap.size + 1 + 1) w HT.out R hRs X (hbw.trans (hbX.mono hbw.size)) B7.cell
  rw [HS.out, HTC.out] at hst
  refine (wpIn_wide (n := 9)).1 ?_
  refine' wpIn_rangeFunc_ownG rfl (by decide) (gf := 55) (lb := #[.pointer (some ⟨w1.heap.size + 1 + 1, 0, none⟩)]) rfl trivial (enters_of Tryd.func55 (by kernel_rfl) rfl)
    hst kpB_t (kpB_b (by omega)) (Below.refl _ _) (fun _ => rfl)
    (fun (pre : List (Nat × Nat)) W => Quiet pre ∧ Boxed W w1.heap.size 3 (.int .i64 (lastFound A pre : Nat)) ∧ Boxed W (w1.heap.size + 1) 3 (.int .i64 (lastCls pre : Nat)) ∧ Below w1.heap.size w1 W)
    (fun c (pre' : List (Nat × Nat)) W => c = .ret ∧ ∃ pre x, pre' = pre ++ [x] ∧ Quiet pre ∧ lastCls pre ≠ 0 ∧ cls (x.2 : Nat) ≠ lastCls pre ∧ Boxed W w.heap.size 3 (.int .i64 (lastFound A pre : Nat)) ∧ Below w.heap.size w W)
    (OwnFrom.and (ownFrom_pure _ (fun (pre : List (Nat × Nat)) => Quiet pre)) (OwnFrom.and (Own.from (boxed_own _ _ (fun (pre : List (Nat × Nat)) => .int .i64 (lastFound A pre : Nat))) _) (OwnFrom.and (Own.from (boxed_own _ _ (fun (pre : List (Nat × Nat)) => .int .i64 (lastCls pre : Nat))) _) (ownFrom_below (Nat.le_refl _) (by omega)))))
    (fun c s' A' B' row hs hg hr => ⟨hs.1, hs.2.imp fun pre h => h.imp fun x h => ⟨h.1, h.2.1, h.2.2.1, h.2.2.2.1, boxed_own (β := List (Nat × Nat)) w.heap.size 3 (fun _ => .int .i64 (lastFound A pre : Nat)) s' A' B' row h.2.2.2.2.1 hg (fun r e => (hr r e).2), ownFrom_below (β := List (Nat × Nat)) (B := X.heap.size) (Nat.le_refl _) (by omega) s' A' B' row h.2.2.2.2.2 hg hr⟩⟩)
    ⟨Quiet.nil, by rw [HSZ.out] at B5; exact B5, B6, hbX⟩ _ ?assign ?body ?done ?stop
  case assign =>
    intro q x W K hK
    dsimp only [encP]
    gi_wp2
    exact hK
  case body =>
    rintro q pre ⟨x1, x2⟩ W ⟨hq, c5, c6, hbW⟩ hge
    have c4 : Boxed W w.heap.size 3 (.int .i64 0) := (hbW.block _ hlt4).trans b4c
    have d4 := c4.cell
    have f4 := c4.frozen
    have d5 := c5.cell
    have f5 := c5.frozen
    have d6 := c6.cell
    have f6 := c6.frozen
    have HC := Lib.hid (fun w => class_cls ((x2 : Nat) : Int) w)
    have HLS := Lib.hid (last_snoc A pre (x1, x2))
    have HQ := Lib.hid hq
    obtain ⟨nw, hnw⟩ : ∃ nw, cls ((x2 : Nat) : Int) = nw := ⟨_, rfl⟩
    obtain ⟨u, hu⟩ : ∃ u, lastCls pre = u := ⟨_, rfl⟩
    obtain ⟨fo, hfo⟩ : ∃ fo, lastFound A pre = fo := ⟨_, rfl⟩
    rw [hnw] at HC
    rw [hu] at c6 d6
    rw [hfo] at c5 d5
    have HNW := Lib.hid hnw
    have HU := Lib.hid hu
    have HFO := Lib.hid hfo
    clear hge hq hnw hu hfo
    by_cases hu0 : u = 0
    · subst hu0
      have HQ2 := Lib.hid (HQ.out.snoc (x := (x1, x2)) (.inl HU.out))
      gi_wp2_with ((refine ⟨trivial, ?_⟩); gi_at_call 42; (refine (CallsIn.inRound q (callsIn_wide.2 (HC.out _))).mono ?_); rintro e w2 ⟨rfl, rfl⟩)
      have hK2 := (KeepsOthers.setCell W ⟨w1.heap.size, 0, none⟩ (.int .i64 (x1 : Nat))).trans (KeepsOthers.setCell _ ⟨w1.heap.size + 1, 0, none⟩ (.int .i64 (nw : Nat)))
      refine ⟨hK2.from _, ⟨hK2.walks, ((Below.refl _ W).setCell (p := ⟨w1.heap.size, 0, none⟩) (show w.heap.size ≤ w1.heap.size by omega) _).setCell (p := ⟨w1.heap.size + 1, 0, none⟩) (show w.heap.size ≤ w1.heap.size + 1 by omega) _⟩, HQ2.out, ?_, ?_, (hbW.setCell (p := ⟨w1.heap.size, 0, none⟩) (Nat.le_refl _) _).setCell (p := ⟨w1.heap.size + 1, 0, none⟩) (Nat.le_succ _) _⟩
      · rw [HLS.out.1]; exact (c5.set _).other (by omega) _
      · rw [HLS.out.2, HNW.out]; exact (c6.other (by omega) _).set _
    · have hu1 : (((u : Nat) : Int) != 0) = true := bne_iff_ne.2 (by omega)
      by_cases hs : nw = u
      · subst hs
        have HQ2 := Lib.hid (HQ.out.snoc (x := (x1, x2)) (.inr (HNW.out.trans HU.out.symm)))
        clear hu0
        gi_wp2_with ((refine ⟨trivial, ?_⟩); gi_at_call 42; (refine (CallsIn.inRound q (callsIn_wide.2 (HC.out _))).mono ?_); rintro e w2 ⟨rfl, rfl⟩)
        have hK2 := (KeepsOthers.setCell W ⟨w1.heap.size, 0, none⟩ (.int .i64 (x1 : Nat))).trans (KeepsOthers.setCell _ ⟨w1.heap.size + 1, 0, none⟩ (.int .i64 (nw : Nat)))
        refine ⟨hK2.from _, ⟨hK2.walks, ((Below.refl _ W).setCell (p := ⟨w1.heap.size, 0, none⟩) (show w.heap.size ≤ w1.heap.size by omega) _).setCell (p := ⟨w1.heap.size + 1, 0, none⟩) (show w.heap.size ≤ w1.heap.size + 1 by omega) _⟩, HQ2.out, ?_, ?_, (hbW.setCell (p := ⟨w1.heap.size, 0, none⟩) (Nat.le_refl _) _).setCell (p := ⟨w1.heap.size + 1, 0, none⟩) (Nat.le_succ _) _⟩
        · rw [HLS.out.1]; exact (c5.set _).other (by omega) _
        · rw [HLS.out.2, HNW.out]; exact (c6.other (by omega) _).set _
      · have hs1 : (((nw : Nat) : Int) != (u : Int)) = true := bne_iff_ne.2 (by omega)
        have HX := Lib.hid (And.intro (show lastCls pre ≠ 0 by rw [HU.out]; exact hu0) (show cls ((x2 : Nat) : Int) ≠ lastCls pre by rw [HU.out, HNW.out]; exact hs))
        clear hu0 hs
        gi_wp2_with ((refine ⟨trivial, ?_⟩); gi_at_call 42; (refine (CallsIn.inRound q (callsIn_wide.2 (HC.out _))).mono ?_); rintro e w2 ⟨rfl, rfl⟩)
        exact ⟨(KeepsOthers.setCell _ _ _).from _, rfl, pre, (x1, x2), rfl, HQ.out, HX.out.1, HX.out.2, by rw [HFO.out]; exact c4.set _, (hbw.trans (hbW.mono hbw.size)).setCell (p := ⟨w.heap.size, 0, none⟩) (Nat.le_refl _) _⟩
  case stop =>
    rintro D cc pre' V hD ⟨k', hk', rfl⟩ ⟨rfl, pre, x, e, hq, h1, h2, c4V, hbV⟩ hK
    have hv := HSTOP.out k' hk' pre x e.symm hq h1 h2
    rw [← hv] at c4V
    have hneD : w.heap.size ≠ D := by omega
    have c6 : Boxed (V.putObj D (.deferred none)) w.heap.size 3 (.int .i64 (backV l m : Nat)) := (World.putObj_heap_other (by omega)).trans c4V
    have hc6 := c6.cell
    clear hv e hq h1 h2
    refine wpIn_wide.2 ?_
    go_wp2_with fail
    refine ⟨by simp, .inl ⟨_, _, rfl, run_takeDeferred hK, ?_⟩⟩
    refine ⟨.int .i64 (backV l m : Nat), ?_, rfl, hbV.trans (belowK_b (w := w) (Nat.le_refl _) _ D _ _ (by omega) hK rfl rfl)⟩
    simp [results, Tryd.f25, go_sem, hc6]
  case done =>
    rintro D ys V hD rfl ⟨hq, -, -, hbV⟩ hK
    have c4V : Boxed V w.heap.size 3 (.int .i64 0) := (hbV.block _ hlt4).trans b4c
    have d4 := c4V.cell
    have f4 := c4V.frozen
    have HV := Lib.hid (HEND.out hq)
    clear hq
    go_wp2_with fail
    have hk2 := (KeepsOthers.setCell V ⟨w.heap.size, 0, none⟩ (.int .i64 0)).same D _ hK rfl
    have hb2 : Below w.heap.size w (V.setCell ⟨w.heap.size, 0, none⟩ (.int .i64 0)) := (hbw.trans (hbV.mono hbw.size)).setCell (p := ⟨w.heap.size, 0, none⟩) (Nat.le_refl _) _
    have c5 := c4V.set (.int .i64 0)
    obtain ⟨W5, hW5⟩ : ∃ W5, V.setCell ⟨w.heap.size, 0, none⟩ (.int .i64 0) = W5 := ⟨_, rfl⟩
    rw [hW5] at hk2 hb2 c5 ⊢
    have c6 : Boxed (W5.putObj D (.deferred none)) w.heap.size 3 (.int .i64 0) := (World.putObj_heap_other (by omega)).trans c5
    have hc6 := c6.cell
    refine ⟨by simp, .inl ⟨_, _, rfl, run_takeDeferred hk2, ?_⟩⟩
    refine ⟨.int .i64 0, ?_, by rw [HV.out]; rfl, hb2.trans (belowK_b (w := w) (Nat.le_refl _) _ D _ _ (by omega) hk2 rfl rfl)⟩
    simp [results, Tryd.f25, go_sem, hc6]
end Go.Proofs.YtkknmbkfiiidmaaDoor
