/-
  The document's Stops: its contract.
-/
import Derived.Test.YtkknmbkfiiidmaaDoorRefInto
import Derived.Test.YtkknmbkfiiidmaaDoorKStops
import Derived.Test.YtkknmbkfiiidmaaDoorStopFind
import Derived.Deep.QuietTactic
import Derived.BigQuiet
namespace Go.Proofs.YtkknmbkfiiidmaaDoor
open Go.RowKit

/-- a world behind another one, in which nothing that existed has turned -/
structure Later (w : World) where
  W : World
  hb : Below w.heap.size w W
instance (w : World) : Inhabited (Later w) := ⟨⟨w, Below.refl _ _⟩⟩
theorem wp_region_later {P : Program} {id : Nat} {Q : Exit → Act → World → Prop} {a : Act} {w : World} {l : List Oper} (hm : P.follows .mixedOrders = true) (hB : Region.lexB .any l.toArray = true)
    (h : wpQuiet P l.toArray (fun w' => ∃ p : Later w, w' = p.W) (fun a' => ∀ w', (∃ p : Later w, w' = p.W) → Q .normal a' w') l a) : (Code.region id l.toArray true).wp P Q a w :=
  wp_region_quiet (C := fun w' => ∃ p : Later w, w' = p.W) hm hB ⟨⟨w.drew, (Below.refl _ _).drew⟩, rfl⟩ (by simpa using h)
theorem Later.cell {w : World} {g i : Nat} {v : Value} (h : w.cell? ⟨g, i, none⟩ = some v) (p : Later w) : p.W.cell? ⟨g, i, none⟩ = some v := cellKeep h p.hb
theorem Calls.later_of {P : Program} {f : FuncId} {args : Array Value} {w : World} {p : Later w} {v : Value}
    (h : Calls P f args p.W fun e w' => e = .returned v ∧ Below p.W.heap.size p.W w') : Calls P f args p.W fun e w'' => e = .returned v ∧ ∃ q : Later w, w'' = q.W :=
  h.mono fun _ _ ⟨he, hb⟩ => ⟨he, ⟨_, nx p.hb hb⟩, rfl⟩

set_option maxHeartbeats 8000000 in
theorem refstops_any (s : ByteArray) (hs : s.size ≤ 1048576) (w : World) :
    Calls Tryd.prog 44 #[.string s] w fun e w' => ∃ ao cap, e = .returned (.slice ao (stopsL (bs s)).length cap) ∧ ReadsI w' .i64 ao ((stopsL (bs s)).map fun (x : Nat) => (x : Int)) ∧ Below w.heap.size w w' := by
  obtain ⟨i0, hi, hz0, hz1, hz2⟩ := info_parts info_int5
  have HCA := Lib.hid (chars_at s hs w)
  have hcs := bs_len_le s
  obtain ⟨l, hl⟩ : ∃ l, bs s = l := ⟨_, rfl⟩
  rw [hl] at HCA hcs ⊢
  have HL := Lib.hid hl
  have HF := Lib.hid (stopsTo_full l)
  have hlen : l.length = s.size := by rw [← hl, size_bs]
  obtain ⟨n, hn⟩ : ∃ n, countN l = n := ⟨_, rfl⟩
  rw [hn] at HCA hcs HF
  have HN := Lib.hid hn
  clear hl hn
  go_enter Tryd.func44, Tryd.ntmps44
  go_wp2_with (first | (go_at_call 46; (with_reducible refine HCA.out.mono ?_); rintro e w1 ⟨ao, ca, rfl, hx1, hb1⟩))
  have HX := Lib.hid hx1
  clear hx1
  go_loopw [3, 5] (fun v i wr => ∃ k, k ≤ n ∧ i = .int .i64 (k : Nat) ∧ Hid (wr.ownsRow w1.heap.size 3 1 v (stopsTo l k).length ((stopsTo l k).map (Value.int .i64))) ∧ Below w1.heap.size w1 wr) (fun _ i _ => n - (intOf i).toNat)
  case atStart => exact ⟨0, Nat.zero_le _, rfl, Lib.hid (World.ownsRow_nil _ _ _ _), Below.refl _ _⟩
  case round =>
    obtain ⟨k, hk, rfl, hown, hbr⟩ := hrel
    have hsl := stopsTo_le l k
    have hszr := hbr.size
    by_cases hlt : k < n
    · obtain ⟨g, rfl, x0, x1, x2, x3⟩ := (HX.out.below hbr (Nat.le_refl _)) k (by rw [HN.out]; exact hlt)
      have HC := Lib.hid (fun w => refclass_any (atN l k) ((tk l)[k]?.getD (0, 0)).1 ((tk l)[k]?.getD (0, 0)).2 w)
      rw [show cls ((((tk l)[k]?.getD (0, 0)).1 : Nat) : Int) = clsAt l k from rfl] at HC
      have hki : (k : Int) < (n : Int) := by omega
      have hk0 : (0 : Int) ≤ (k : Int) := by omega
      have hk1 : k ≤ 1048576 := by omega
      obtain ⟨a, ha⟩ : ∃ a, clsAt l k = a := ⟨_, rfl⟩
      obtain ⟨p, hp⟩ : ∃ p, atN l k = p := ⟨_, rfl⟩
      obtain ⟨r, hr⟩ : ∃ r, ((tk l)[k]?.getD (0, 0)).1 = r := ⟨_, rfl⟩
      obtain ⟨v, hv⟩ : ∃ r, ((tk l)[k]?.getD (0, 0)).2 = r := ⟨_, rfl⟩
      obtain ⟨ri, hri⟩ : ∃ x, rightR (r : Int) v = x := ⟨_, rfl⟩
      simp only [hp, hr, hv, ha, hri] at x0 x1 x2 x3 HC
      have HP := Lib.hid hp
      have HA := Lib.hid ha
      clear ha hp hr hv hri
      have k0 := Later.cell x0
      have k1 := Later.cell x1
      have k2 := Later.cell x2
      have k3 := Later.cell x3
      have cC : ∀ p' : Later wr, Calls Tryd.prog 54 #[.agg #[.int .i64 (p : Nat), .int .i32 (r : Nat), .int .i64 (v : Nat), .bool ri]] p'.W fun e w'' => e = .returned (.int .i64 (a : Nat)) ∧ ∃ q : Later wr, w'' = q.W := fun p' => Calls.later_of (HC.out _)
      by_cases ha0 : a = 0
      · subst ha0
        have HST := Lib.hid (stopsTo_no l k (by unfold stopAt; rw [HA.out]; rfl))
        go_wp2_with fail
        refine wp_region_later (by kernel_rfl) (by kernel_rfl) ?_
        repeat (go_big_quiet_step (first | with_reducible exact cC _ | with_reducible exact cJ _))
        refine wpQuiet_nil ?_
        intro _ hw'
        obtain ⟨pq, hw''⟩ := hw'
        subst hw''
        go_wp2_with fail
        exact ⟨⟨k + 1, by omega, by go_num, Lib.hid (by rw [HST.out]; exact owns_below hown.out pq.hb (Nat.le_refl _)), nx hbr pq.hb⟩, by simp [intOf]; omega⟩
      · have ha1 : (((a : Nat) : Int) != 0) = true := bne_iff_ne.2 (by omega)
        have cJ := True.intro
        by_cases hkz : k = 0
        · have hk2 : ((k : Int) == 0) = true := beq_iff_eq.2 (by omega)
          have HST := Lib.hid (stopsTo_yes l k (by unfold stopAt; rw [HA.out, hkz]; simp [ha0]))
          rw [HP.out] at HST
          clear ha0 hkz
          go_wp2_with fail
          refine wp_region_later (by kernel_rfl) (by kernel_rfl) ?_
          repeat (go_big_quiet_step (first | with_reducible exact cC _ | with_reducible exact cJ _))
          refine wpQuiet_nil ?_
          intro _ hw'
          obtain ⟨pq, hw''⟩ := hw'
          subst hw''
          have hbq : Below wr.heap.size wr pq.W := pq.hb
          have x0Q := k0 pq
          have hownQ := owns_below hown.out hbq (Nat.le_refl _)
          have hszQ := hbq.size
          obtain ⟨W, hW⟩ : ∃ W, pq.W = W := ⟨_, rfl⟩
          rw [hW] at hbq x0Q hownQ hszQ ⊢
          have HO := Lib.hid hownQ
          clear k0 k1 k2 k3 cC hown hownQ hW
          go_wp2_with (at_builtin; refine wpList_append_own _ rfl _ _ 30 rfl w1.heap.size 3 i0 (.int .i64 0) 1 8 Tryd.underlying30 hi hz0 hz1 hz2 rfl (by decide) u3 _ _ rfl (HO.out.alloc _) ⟨W.heap.size, 0, none⟩ 1 1 [.int .i64 (p : Nat)] rfl (by simp) (cells_new _ _ _) (by simp [Value.oneCell']) (by unfold maxLen; omega) (by omega) (by rw [World.size_alloc]; omega) ?_; intro v4 w4 hown4 hgrow4 _; have hb4 : Below w1.heap.size w1 w4 := (al (nx hbr hbq) _).grown hgrow4 (by rw [World.size_alloc]; omega) (fun q e => (HO.out.lt q e).1); clear hgrow4)
          exact ⟨⟨k + 1, by omega, by go_num, Lib.hid (by rw [HST.out, List.length_append, List.length_singleton, List.map_append]; exact hown4), hb4⟩, by simp [intOf]; omega⟩
        · have hk2 : ((k : Int) == 0) = false := beq_eq_false_iff_ne.2 (by omega)
          clear cJ
          obtain ⟨j, hj⟩ : ∃ j : Nat, j = k - 1 := ⟨_, rfl⟩
          have hj1 : (k : Int) - 1 = (j : Int) := by omega
          have hj0 : (0 : Int) ≤ (j : Int) := by omega
          have hjn : (j : Int) < (n : Int) := by omega
          obtain ⟨g', hg', y0, y1, y2, y3⟩ := (HX.out.below hbr (Nat.le_refl _)) j (by rw [HN.out]; omega)
          obtain rfl : g = g' := by injection hg' with e1; injection e1
          have HJ := Lib.hid (fun w => refclass_any (atN l j) ((tk l)[j]?.getD (0, 0)).1 ((tk l)[j]?.getD (0, 0)).2 w)
          rw [show cls ((((tk l)[j]?.getD (0, 0)).1 : Nat) : Int) = clsAt l j from rfl] at HJ
          have hso := stop_of (l := l) (i := k) (by omega)
          rw [← hj, HA.out] at hso
          obtain ⟨b, hb⟩ : ∃ b, clsAt l j = b := ⟨_, rfl⟩
          obtain ⟨p', hp'⟩ : ∃ p, atN l j = p := ⟨_, rfl⟩
          obtain ⟨r', hr'⟩ : ∃ r, ((tk l)[j]?.getD (0, 0)).1 = r := ⟨_, rfl⟩
          obtain ⟨v', hv'⟩ : ∃ r, ((tk l)[j]?.getD (0, 0)).2 = r := ⟨_, rfl⟩
          obtain ⟨ri', hri'⟩ : ∃ x, rightR (r' : Int) v' = x := ⟨_, rfl⟩
          simp only [hp', hr', hv', hb, hri'] at y0 y1 y2 y3 HJ
          rw [hb] at hso
          have HSO := Lib.hid hso
          clear hg' hso hb hp' hr' hv' hri' hkz hj
          have l0 := Later.cell y0
          have l1 := Later.cell y1
          have l2 := Later.cell y2
          have l3 := Later.cell y3
          have cJ : ∀ p'' : Later wr, Calls Tryd.prog 54 #[.agg #[.int .i64 (p' : Nat), .int .i32 (r' : Nat), .int .i64 (v' : Nat), .bool ri']] p''.W fun e w'' => e = .returned (.int .i64 (b : Nat)) ∧ ∃ q : Later wr, w'' = q.W := fun p' => Calls.later_of (HJ.out _)
          by_cases hba : b = a
          · subst hba
            have HST := Lib.hid (stopsTo_no l k (by rw [HSO.out]; simp))
            clear ha0
            go_wp2_with fail
            refine wp_region_later (by kernel_rfl) (by kernel_rfl) ?_
            repeat (go_big_quiet_step (first | with_reducible exact cC _ | with_reducible exact cJ _))
            refine wpQuiet_nil ?_
            intro _ hw'
            obtain ⟨pq, hw''⟩ := hw'
            subst hw''
            go_wp2_with fail
            exact ⟨⟨k + 1, by omega, by go_num, Lib.hid (by rw [HST.out]; exact owns_below hown.out pq.hb (Nat.le_refl _)), nx hbr pq.hb⟩, by simp [intOf]; omega⟩
          · have hb1 : (((b : Nat) : Int) != (a : Int)) = true := bne_iff_ne.2 (by omega)
            have HST := Lib.hid (stopsTo_yes l k (by rw [HSO.out]; simp [ha0, hba]))
            rw [HP.out] at HST
            clear ha0 hba
            go_wp2_with fail
            refine wp_region_later (by kernel_rfl) (by kernel_rfl) ?_
            repeat (go_big_quiet_step (first | with_reducible exact cC _ | with_reducible exact cJ _))
            refine wpQuiet_nil ?_
            intro _ hw'
            obtain ⟨pq, hw''⟩ := hw'
            subst hw''
            clear l0 l1 l2 l3 cJ
            have hbq : Below wr.heap.size wr pq.W := pq.hb
            have x0Q := k0 pq
            have hownQ := owns_below hown.out hbq (Nat.le_refl _)
            have hszQ := hbq.size
            obtain ⟨W, hW⟩ : ∃ W, pq.W = W := ⟨_, rfl⟩
            rw [hW] at hbq x0Q hownQ hszQ ⊢
            have HO := Lib.hid hownQ
            clear k0 k1 k2 k3 cC hown hownQ hW
            go_wp2_with (at_builtin; refine wpList_append_own _ rfl _ _ 30 rfl w1.heap.size 3 i0 (.int .i64 0) 1 8 Tryd.underlying30 hi hz0 hz1 hz2 rfl (by decide) u3 _ _ rfl (HO.out.alloc _) ⟨W.heap.size, 0, none⟩ 1 1 [.int .i64 (p : Nat)] rfl (by simp) (cells_new _ _ _) (by simp [Value.oneCell']) (by unfold maxLen; omega) (by omega) (by rw [World.size_alloc]; omega) ?_; intro v4 w4 hown4 hgrow4 _; have hb4 : Below w1.heap.size w1 w4 := (al (nx hbr hbq) _).grown hgrow4 (by rw [World.size_alloc]; omega) (fun q e => (HO.out.lt q e).1); clear hgrow4)
            exact ⟨⟨k + 1, by omega, by go_num, Lib.hid (by rw [HST.out, List.length_append, List.length_singleton, List.map_append]; exact hown4), hb4⟩, by simp [intOf]; omega⟩
    · obtain rfl : k = n := by omega
      have HO := Lib.hid hown.out
      have hlo : (stopsTo l k).length ≤ 1048576 := by omega
      clear hown
      go_wp2_with (at_builtin; refine wpList_append_own _ rfl _ _ 30 rfl w1.heap.size 3 i0 (.int .i64 0) 1 8 Tryd.underlying30 hi hz0 hz1 hz2 rfl (by decide) u3 _ _ rfl (HO.out.alloc _) ⟨wr.heap.size, 0, none⟩ 1 1 [.int .i64 (s.size : Nat)] rfl (by simp) (cells_new _ _ _) (by simp [Value.oneCell']) (by unfold maxLen; omega) (by omega) (by rw [World.size_alloc]; omega) ?_; intro v4 w4 hown4 hgrow4 _; have hb4 : Below w1.heap.size w1 w4 := (al hbr _).grown hgrow4 (by rw [World.size_alloc]; omega) (fun q e => (HO.out.lt q e).1); clear hgrow4)
      have hown5 : w4.ownsRow w1.heap.size 3 1 v4 ((stopsTo l k).length + 1) (((stopsL l).map fun (x : Nat) => (x : Int)).map (Value.int .i64)) := by
        rw [← HF.out, List.map_append, hlen]
        exact hown4
      obtain ⟨ao', ca', rfl, -, R⟩ := ReadsI.owned hown5
      have hlL : ((stopsL l).map fun (x : Nat) => (x : Int)).length = (stopsL l).length := List.length_map _
      rw [hlL]
      go_ret
      exact ⟨ao', ca', rfl, R, nx hb1 hb4⟩
end Go.Proofs.YtkknmbkfiiidmaaDoor
