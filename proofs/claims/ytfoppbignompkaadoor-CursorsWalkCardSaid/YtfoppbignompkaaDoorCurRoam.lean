/-
  The walk of CursorsWalk: right and left, character by character.
-/
import Derived.Test.YtfoppbignompkaaDoorCurRoamLaw
import Derived.Deep.RegionHeldLaw
namespace Go.Proofs.YtfoppbignompkaaDoor
open Go.RowKit
attribute [local go_sem] Oper.semAt_some

set_option maxRecDepth 100000 in
set_option maxHeartbeats 8000000 in
theorem cursorsWalk_any (s : ByteArray) (hs : s.size ≤ 140737488351232) (keep : Bool) (w : World) (hT : Tabs w) :
    Calls Tryd.prog 7 #[.string s, .bool keep] w fun e w' => e = .returned (.bool true) ∧ Below w.heap.size w w' := by
  obtain ⟨i0, hi, hz0, hz1, hz2⟩ := info_parts info_intR
  have HT := Lib.hid hT
  have HA := Lib.hid (fun w hT => cawake_any w hT)
  clear hT
  by_cases h3 : 300 < s.size
  · have h3i : (300 : Int) < (s.size : Int) := by omega
    obtain ⟨t, hte⟩ : ∃ t, s.extract 0 300 = t := ⟨_, rfl⟩
    have ht : t.size ≤ 300 := by rw [← hte, ByteArray.size_extract]; omega
    have HC := Lib.hid hte
    refine callsIn_wide.1 (callsIn_of_wp_marks (n := 9) Tryd.func7 rfl trivial (wpIn_wide.2 ?_) rfl)
    simp only [Tryd.ntmps7, List.size_toArray, List.length_cons, List.length_nil, Nat.reduceAdd, Nat.reduceSub, Array.replicate_succ, Array.replicate_zero, List.push_toArray, List.append_toArray, List.nil_append, List.cons_append]
    go_wp2_with (first
      | (go_at_call 19; (with_reducible refine (HA.out _ HT.out).mono ?_); rintro e w1 ⟨rfl, hb1⟩)
      | (go_at_call 27; (with_reducible refine (all_in t _).mono ?_); rintro e w2 ⟨rfl, rfl⟩))
    clear hte HA h3 h3i
    obtain ⟨cb, hcb⟩ : ∃ cb, w1.heap.size = cb := ⟨_, rfl⟩
    have hsz1 := hb1.size
    obtain ⟨W3, hW3⟩ : ∃ W3, (((w1.alloc (.cells #[.int .u32 2, .int .i64 0, .int .i64 0, .int .i64 77] 36)).alloc (.cells #[] 3)).alloc (.cells #[.slice (some ⟨cb + 1, 0, none⟩) 0 0] 53)).alloc (.cells #[.string t] 9) = W3 := ⟨_, rfl⟩
    have K0 : Blk W3 cb 36 [.int .u32 2, .int .i64 0, .int .i64 0, .int .i64 77] := by
      rw [← hW3, ← hcb]
      exact (((Blk.new w1 36 [.int .u32 2, .int .i64 0, .int .i64 0, .int .i64 77]).alloc _).alloc _).alloc _
    have R0 : W3.ownsRow (cb + 1) 3 1 (.slice (some ⟨cb + 1, 0, none⟩) 0 0) 0 [] := by
      have := World.ownsRow_made (w1.alloc (.cells #[.int .u32 2, .int .i64 0, .int .i64 0, .int .i64 77] 36)) (e := 3) (size := 1) #[] 0 (Nat.le_refl _) (by decide) rfl
      rw [World.size_alloc, hcb] at this
      rw [← hW3]
      exact (this.alloc _).alloc _
    have bP : Boxed W3 (cb + 1 + 1) 53 (.slice (some ⟨cb + 1, 0, none⟩) 0 0) := by
      have := Boxed.new ((w1.alloc (.cells #[.int .u32 2, .int .i64 0, .int .i64 0, .int .i64 77] 36)).alloc (.cells #[] 3)) 53 (.slice (some ⟨cb + 1, 0, none⟩) 0 0)
      rw [World.size_alloc, World.size_alloc, hcb] at this
      rw [← hW3]
      exact this.alloc _
    have bS : Boxed W3 (cb + 1 + 1 + 1) 9 (.string t) := by
      have := Boxed.new (((w1.alloc (.cells #[.int .u32 2, .int .i64 0, .int .i64 0, .int .i64 77] 36)).alloc (.cells #[] 3)).alloc (.cells #[.slice (some ⟨cb + 1, 0, none⟩) 0 0] 53)) 9 (.string t)
      rw [World.size_alloc, World.size_alloc, World.size_alloc, hcb] at this
      rw [← hW3]
      exact this
    have hbw : Below w.heap.size w W3 := by
      rw [← hW3]
      exact al (al (al (al hb1 _) _) _) _
    rw [hcb] at hsz1 ⊢
    rw [hW3]
    have hsz3 : cb + 1 + 1 + 1 + 1 ≤ W3.heap.size := by have := bS.lt; omega
    clear hW3 hcb hb1
    have hns := bs_len_le t
    obtain ⟨n, hn⟩ : ∃ n, countN (bs t) = n := ⟨_, rfl⟩
    rw [hn] at hns
    have HN := Lib.hid hn
    clear hn
    refine (wpIn_wide (n := 9)).1 ?_
    refine' wpIn_rangeFunc_ownG rfl (by decide) (gf := 55) (lb := #[.pointer (some ⟨cb + 1 + 1 + 1, 0, none⟩)]) rfl trivial (enters_of Tryd.func55 (by kernel_rfl) rfl)
      (all_stops (9 - 1) (by decide) (cb + 1 + 1 + 1) (cb + 1) t W3 bS.cell) kpB_t (kpB_b (by omega)) (Below.refl _ _) (fun _ => rfl)
      (fun (pre : List (Nat × Nat)) W => (∃ v', Boxed W (cb + 1 + 1) 53 v' ∧ W.ownsRow (cb + 1) 3 1 v' pre.length (pre.map fun x => Value.int .i64 (x.1 : Nat)) ∧ True) ∧ Boxed W (cb + 1 + 1 + 1) 9 (.string t) ∧ Below (cb + 1) W3 W)
      (fun _ _ _ => False)
      (OwnFrom.and (Own.from (holdsRow_own _ _ _ _ _ (fun (pre : List (Nat × Nat)) => pre.length) (fun (pre : List (Nat × Nat)) => pre.map fun x => Value.int .i64 (x.1 : Nat)) (fun _ _ => True)) _) (OwnFrom.and (Own.from (boxed_own _ _ (fun _ => .string t)) _) (ownFrom_below (by omega) (by omega))))
      (fun _ _ _ _ _ hs _ _ => hs)
      ⟨⟨_, bP, R0, trivial⟩, bS, Below.refl _ _⟩ _ ?assign ?body ?done ?stop
    case assign =>
      intro l x W K hK
      dsimp only [encP]
      gi_wp2
      exact hK
    case body =>
      rintro l pre ⟨x1, x2⟩ W ⟨⟨v', c3, hr3, _⟩, c4, hbW⟩ hlen
      have d3 := c3.cell
      have f3 := c3.frozen
      have hszX : cb + 1 ≤ W.heap.size := by have := c4.lt; omega
      have hle3 : pre.length ≤ 300 := by rw [HN.out] at hlen; omega
      gi_wp2_with (gi_at_builtin; refine wpListIn_append_own _ rfl _ _ 53 rfl (cb + 1) 3 i0 (.int .i64 0) 1 8 Tryd.underlying53 hi hz0 hz1 hz2 rfl (by decide) _ _ _ rfl (hr3.alloc _) ⟨W.heap.size, 0, none⟩ 1 1 [.int .i64 (x1 : Nat)] rfl rfl (cells_new _ _ _) (by simp [Value.oneCell']) (by unfold maxLen; omega) (by omega) (by rw [World.size_alloc]; exact Nat.le_succ_of_le hszX) ?_; intro v2 w2 hown2 hgrow2 _; obtain ⟨g2, cap2, rfl⟩ := ownsRow_succ hown2; obtain ⟨hv1, hv2, hr2, hk2, hb2⟩ := Boxed.appended c3 (by decide) hr3 hszX (by omega) hown2 hgrow2; have hc1 := hv1.cell; have hf1 := hv1.frozen)
      have b4Y := ((c4.alloc (.cells #[.int .i64 (x1 : Nat)] 3)).kept hgrow2 ((c4.alloc (.cells #[.int .i64 (x1 : Nat)] 3)).not_row (by decide) (hr3.alloc _))).kept (grownBy_setCell' w2 (cb + 1 + 1) (.slice (some ⟨g2, 0, none⟩) (pre.length + 1) cap2)) (by simp)
      exact ⟨hk2.from _, ⟨hk2.walks, hb2⟩, ⟨_, hv2, by rw [List.length_append, List.length_singleton, List.map_append]; exact hr2⟩, b4Y, hbW.trans hb2⟩
    case stop =>
      rintro D c pre W hD _ h _
      exact h.elim
    case done =>
      rintro D ys W2 hD rfl ⟨⟨v', c3, hr3, _⟩, c4, hbW⟩ hK
      rw [HN.out] at hr3
      rw [ups_length] at hr3
      have d3 := c3.cell
      have f3 := c3.frozen
      have hszX : cb + 1 ≤ W2.heap.size := by have := c4.lt; omega
      have K2 : Blk W2 cb 36 [.int .u32 2, .int .i64 0, .int .i64 0, .int .i64 77] := (hbW.block cb (Nat.lt_succ_self _)).trans K0
      have hbW2 := hbw.trans (hbW.mono (show w.heap.size ≤ cb + 1 by omega))
      have hR3 := Lib.hid hr3
      clear hr3 K0 R0 bP bS hbw hbW c4
      go_wp2_with (at_builtin; refine wpList_append_own _ rfl _ _ 53 rfl (cb + 1) 3 i0 (.int .i64 0) 1 8 Tryd.underlying53 hi hz0 hz1 hz2 rfl (by decide) _ _ _ rfl (hR3.out.alloc _) ⟨W2.heap.size, 0, none⟩ 1 1 [.int .i64 (t.size : Nat)] rfl (by simp) (cells_new _ _ _) (by simp [Value.oneCell']) (by unfold maxLen; omega) (by omega) (by rw [World.size_alloc]; exact Nat.le_succ_of_le hszX) ?_; intro v4 w4 hown4 hgrow4 _; obtain ⟨g2, cap2, rfl⟩ := ownsRow_succ hown4; obtain ⟨hv1, hv2, hr2, hk2, hb2⟩ := Boxed.appended c3 (by decide) hR3.out hszX (by omega) hown4 hgrow4; have hc1 := hv1.cell; have hf1 := hv1.frozen)
      have hgb : cb + 1 ≤ g2 := (hr2.lt g2 rfl).1
      have hgc : g2 ≠ cb := by omega
      have ROAM : Roam w cb g2 cap2 n D (bs t) 0 0 77 (w4.setCell ⟨cb + 1 + 1, 0, none⟩ (.slice (some ⟨g2, 0, none⟩) (n + 1) cap2)) := by
        refine ⟨(hb2.block cb (Nat.lt_succ_self _)).trans K2, hv2, fun k hk => ?_, hk2.same D _ hK rfl, hbW2.trans (hb2.mono (show w.heap.size ≤ cb + 1 by omega)), hsz1⟩
        rw [hr2.cellAt k (by omega)]
        rcases Nat.lt_or_ge k n with h | h
        · rw [List.getElem?_append_left (by rw [List.length_map, ups_length]; exact h), List.getElem?_map, ups_get _ _ _ h]
          rfl
        · obtain rfl : k = n := by omega
          rw [List.getElem?_append_right (by rw [List.length_map, ups_length]; exact Nat.le_refl _), List.length_map, ups_length, Nat.sub_self]
          rw [← HN.out, roam_end, ← size_bs]
          rfl
      obtain ⟨W5, hW5⟩ : ∃ W5, w4.setCell ⟨cb + 1 + 1, 0, none⟩ (.slice (some ⟨g2, 0, none⟩) (n + 1) cap2) = W5 := ⟨_, rfl⟩
      rw [hW5] at ROAM ⊢
      clear hW5 hv1 hv2 hr2 hk2 hb2 hown4 hgrow4 hc1 hf1 hR3 c3 d3 f3 hK K2 hbW2 hszX
      have HMV := Lib.hid (fun (a an : Nat) (gl : Int) (ha : a ≤ t.size) (han : an ≤ t.size) (hg : 0 ≤ gl) (m : Nat) (h1 : 1 ≤ m) (h8 : m ≤ 8) (h5 : ¬ (m = 5 ∨ m = 6)) (q : Nat) hq (k : Bool) (B2 : Int) hB2 w hT => move_ok t (by omega) 2 a an gl ha han hg m h1 h8 k q hq B2 (colOf (bs t) q : Nat) hB2 (by rw [if_neg h5]) w hT)
      have HWH := Lib.hid (fun (c : Nat) (hc : c ≤ t.size) w hT => lwhere_at t (by omega) c hc w hT)
      have HPB : Hid (∀ k, k ≤ n → atN (bs t) k ≤ t.size) := Lib.hid fun k _ => by rw [size_bs]; exact atN_le _ _
      have hDw : w.heap.size ≤ D := by omega
      have HQ0 := Lib.hid hDw
      clear hDw hsz3 hgb
      clear hD
      cases keep
      case false =>
        go_loopw [8] (fun i wr => ∃ (k : Nat) (gl : Int), i = .int .i64 (k : Nat) ∧ 1 ≤ k ∧ k ≤ n + 2 ∧ 0 ≤ gl ∧ Roam w cb g2 cap2 n D (bs t) (atN (bs t) (min (k - 1) n)) (atN (bs t) (min (k - 1) n)) gl wr) (fun i _ => n + 2 - (intOf i).toNat)
        case atStart => exact ⟨1, 77, rfl, by omega, by omega, by omega, by rw [show min (1 - 1) n = 0 by omega, atN_zero]; exact ROAM⟩
        case round =>
          clear ROAM
          obtain ⟨k, gl, rfl, hk1, hk2, hgl, R⟩ := hrel
          by_cases hkn : k ≤ n + 1
          · obtain ⟨j, hj⟩ : ∃ j, min (k - 1) n = j := ⟨_, rfl⟩
            obtain ⟨m, hm⟩ : ∃ m, min k n = m := ⟨_, rfl⟩
            have hjn : j ≤ n := by omega
            have hmn : m ≤ n := by omega
            have hmj : min (j + 1) n = m := by omega
            have hq := roam_right (bs t) j (by rw [HN.out]; exact hjn) gl
            rw [HN.out, hmj] at hq
            rw [hj] at R
            have hAs := HPB.out j hjn
            have hqs := HPB.out m hmn
            obtain ⟨A, hA⟩ : ∃ A, atN (bs t) j = A := ⟨_, rfl⟩
            rw [hA] at R hq hAs
            obtain ⟨q, hqe⟩ : ∃ q, atN (bs t) m = q := ⟨_, rfl⟩
            have HQE := Lib.hid hqe
            rw [hqe] at hq hqs
            have HM := Lib.hid (fun w hT => HMV.out A (A) gl hAs (hAs) hgl 2 (by decide) (by decide) (by decide) q hq.symm false ((q : Nat) : Int) (by simp) w hT)
            rw [show ((2 : Nat) : Int) = 2 from rfl] at HM
            have HW := Lib.hid (fun w hT => HWH.out q hqs w hT)
            obtain ⟨C, hC⟩ : ∃ C, colOf (bs t) q = C := ⟨_, rfl⟩
            obtain ⟨L, hL⟩ : ∃ L, lnOf (bs t) q = L := ⟨_, rfl⟩
            rw [hC] at HM HW
            rw [hL] at HW
            have HRN := Lib.hid (show min (k + 1 - 1) n = m by omega)
            have hmin : min (k : Int) (n : Int) = (m : Int) := by omega
            have hki : (k : Int) ≤ (n : Int) + 1 := by omega
            have hm0 : (0 : Int) ≤ (m : Int) := by omega
            have hm1 : (m : Int) < (n : Int) + 1 := by omega
            have a0 := R.c.cell 0 rfl
            have a1 := R.c.cell 1 rfl
            have a2 := R.c.cell 2 rfl
            have a3 := R.c.cell 3 rfl
            have p0 := R.p.cell
            have RH := Lib.hid R
            clear hj hm hmj hq hA hqe hC hL hk2 hkn hjn R
            by_cases hq0 : q = 0
            · subst hq0
              rw [show ((0 : Nat) : Int) = 0 from rfl] at HM HW
              go_wp2_with (first
                | (go_at_call 20; (with_reducible refine (HM.out _ (HT.out.below RH.out.b (Nat.le_refl _))).mono ?_); rintro e w5 ⟨rfl, hb5⟩; have K9 := Lib.hid (Blk.new w5 36 [.int .u32 2, .int .i64 0, .int .i64 0, .int .i64 (C : Nat)]); have R6 := Lib.hid ((RH.out.below hb5).alloc (.cells #[.int .u32 2, .int .i64 0, .int .i64 0, .int .i64 (C : Nat)] 36)); have p6 := R6.out.p.cell; have r6 := R6.out.r m hmn; rw [HQE.out, show ((0 : Nat) : Int) = 0 from rfl] at r6)
                | (go_at_call 25; (with_reducible refine (HW.out _ (HT.out.below R6.out.b (Nat.le_refl _))).mono ?_); rintro e w7 ⟨rfl, hb7⟩; have tS := Two.new w7 45 (.int .i64 (L : Nat)) (.int .i64 (C : Nat)); have R8 := Lib.hid ((R6.out.below hb7).alloc (.cells #[.int .i64 (L : Nat), .int .i64 (C : Nat)] 45)); have K8 := (K9.out.below hb7).alloc (.cells #[.int .i64 (L : Nat), .int .i64 (C : Nat)] 45); have s1 := tS.cell1; have d0 := K8.cell 0 rfl; have d1 := K8.cell 1 rfl; have d2 := K8.cell 2 rfl; have d3 := K8.cell 3 rfl; have f0 := R8.out.c.frozen 0; have f1 := R8.out.c.frozen 1; have f2 := R8.out.c.frozen 2; have f3 := R8.out.c.frozen 3; have c0 := R8.out.c.cell 0 rfl; have c1 := R8.out.c.cell 1 rfl; have c2 := R8.out.c.cell 2 rfl; have c3 := R8.out.c.cell 3 rfl))
              exact ⟨⟨k + 1, (C : Nat), by go_num, by omega, by omega, by omega, by rw [HRN.out, HQE.out]; exact R8.out.set4 hgc 0 0 (C : Nat)⟩, by simp [intOf]; omega⟩
            · have hq1 : ((q : Int) != 0) = true := bne_iff_ne.2 (by omega)
              have hq2 : ((0 : Int) != (q : Int)) = true := bne_iff_ne.2 (by omega)
              clear hq0
              go_wp2_with (first
                | (go_at_call 20; (with_reducible refine (HM.out _ (HT.out.below RH.out.b (Nat.le_refl _))).mono ?_); rintro e w5 ⟨rfl, hb5⟩; have K9 := Lib.hid (Blk.new w5 36 [.int .u32 2, .int .i64 (q : Nat), .int .i64 (q : Nat), .int .i64 (C : Nat)]); have R6 := Lib.hid ((RH.out.below hb5).alloc (.cells #[.int .u32 2, .int .i64 (q : Nat), .int .i64 (q : Nat), .int .i64 (C : Nat)] 36)); have p6 := R6.out.p.cell; have r6 := R6.out.r m hmn; rw [HQE.out] at r6)
                | (go_at_call 25; (with_reducible refine (HW.out _ (HT.out.below R6.out.b (Nat.le_refl _))).mono ?_); rintro e w7 ⟨rfl, hb7⟩; have tS := Two.new w7 45 (.int .i64 (L : Nat)) (.int .i64 (C : Nat)); have R8 := Lib.hid ((R6.out.below hb7).alloc (.cells #[.int .i64 (L : Nat), .int .i64 (C : Nat)] 45)); have K8 := (K9.out.below hb7).alloc (.cells #[.int .i64 (L : Nat), .int .i64 (C : Nat)] 45); have s1 := tS.cell1; have d0 := K8.cell 0 rfl; have d1 := K8.cell 1 rfl; have d2 := K8.cell 2 rfl; have d3 := K8.cell 3 rfl; have f0 := R8.out.c.frozen 0; have f1 := R8.out.c.frozen 1; have f2 := R8.out.c.frozen 2; have f3 := R8.out.c.frozen 3; have c0 := R8.out.c.cell 0 rfl; have c1 := R8.out.c.cell 1 rfl; have c2 := R8.out.c.cell 2 rfl; have c3 := R8.out.c.cell 3 rfl))
              exact ⟨⟨k + 1, (C : Nat), by go_num, by omega, by omega, by omega, by rw [HRN.out, HQE.out]; exact R8.out.set4 hgc q q (C : Nat)⟩, by simp [intOf]; omega⟩
          · obtain rfl : k = n + 2 := by omega
            have p0 := R.p.cell
            rw [show min (n + 2 - 1) n = n by omega] at R
            have hkd : decide ((n : Int) + 2 ≤ (n : Int) + 1) = false := decide_eq_false (by omega)
            rw [show ((n + 2 : Nat) : Int) = (n : Int) + 2 from rfl]
            have RH := Lib.hid R
            clear R hkn hk1 hk2
            obtain ⟨W9, hW9⟩ : ∃ W, wr = W := ⟨_, rfl⟩
            rw [hW9] at RH p0 ⊢
            clear hW9
            go_wp2_with fail
            clear hkd p0
            go_loopw [14] (fun i wr => ∃ (z gl : Int), i = .int .i64 z ∧ -2 ≤ z ∧ z ≤ (n : Int) - 1 ∧ 0 ≤ gl ∧ Roam w cb g2 cap2 n D (bs t) (atN (bs t) (max (z + 1) 0).toNat) (atN (bs t) (max (z + 1) 0).toNat) gl wr) (fun i _ => (intOf i + 2).toNat)
            case atStart =>
              refine ⟨(n : Int) - 1, gl, ?_, by omega, by omega, hgl, ?_⟩
              · first
                  | rfl
                  | (congr 1; omega)
              · rw [show (max ((n : Int) - 1 + 1) 0).toNat = n by omega]
                exact RH.out
            case round =>
              clear RH
              clear hgl gl
              obtain ⟨z, gl, rfl, hz1', hz2', hgl, R⟩ := hrel
              by_cases hzz : -1 ≤ z
              · obtain ⟨j, hj⟩ : ∃ j, (max (z + 1) 0).toNat = j := ⟨_, rfl⟩
                obtain ⟨m, hm⟩ : ∃ m, (max z 0).toNat = m := ⟨_, rfl⟩
                have hjn : j ≤ n := by omega
                have hmn : m ≤ n := by omega
                have hmj : j - 1 = m := by omega
                have hq := roam_left (bs t) j (by rw [HN.out]; exact hjn) gl
                rw [hmj] at hq
                rw [hj] at R
                have hAs := HPB.out j hjn
                have hqs := HPB.out m hmn
                obtain ⟨A, hA⟩ : ∃ A, atN (bs t) j = A := ⟨_, rfl⟩
                rw [hA] at R hq hAs
                obtain ⟨q, hqe⟩ : ∃ q, atN (bs t) m = q := ⟨_, rfl⟩
                have HQE := Lib.hid hqe
                rw [hqe] at hq hqs
                have HM := Lib.hid (fun w hT => HMV.out A (A) gl hAs (hAs) hgl 1 (by decide) (by decide) (by decide) q hq.symm false ((q : Nat) : Int) (by simp) w hT)
                rw [show ((1 : Nat) : Int) = 1 from rfl] at HM
                obtain ⟨C, hC⟩ : ∃ C, colOf (bs t) q = C := ⟨_, rfl⟩
                rw [hC] at HM
                have HRN := Lib.hid (show (max (z - 1 + 1) 0).toNat = m by omega)
                have hmax : max z 0 = (m : Int) := by omega
                have hm0 : (0 : Int) ≤ (m : Int) := by omega
                have hm1 : (m : Int) < (n : Int) + 1 := by omega
                have hm2 : m < n + 1 := by omega
                have a0 := R.c.cell 0 rfl
                have a1 := R.c.cell 1 rfl
                have a2 := R.c.cell 2 rfl
                have a3 := R.c.cell 3 rfl
                have RH := Lib.hid R
                clear hj hm hmj hq hA hqe hC hjn R
                by_cases hq0 : q = 0
                · subst hq0
                  rw [show ((0 : Nat) : Int) = 0 from rfl] at HM
                  go_wp2_with (first
                    | (go_at_call 20; (with_reducible refine (HM.out _ (HT.out.below RH.out.b (Nat.le_refl _))).mono ?_); rintro e w5 ⟨rfl, hb5⟩; have K9 := Blk.new w5 36 [.int .u32 2, .int .i64 0, .int .i64 0, .int .i64 (C : Nat)]; have R6 := Lib.hid ((RH.out.below hb5).alloc (.cells #[.int .u32 2, .int .i64 0, .int .i64 0, .int .i64 (C : Nat)] 36)); have p6 := R6.out.p.cell; have r6 := R6.out.r m hmn; rw [HQE.out, show ((0 : Nat) : Int) = 0 from rfl] at r6; have d0 := K9.cell 0 rfl; have d1 := K9.cell 1 rfl; have d2 := K9.cell 2 rfl; have d3 := K9.cell 3 rfl))
                  have k0 := Later.cell p6
                  have k1 := Later.cell r6
                  have k2 := Later.cell d1
                  have k3 := Later.cell d2
                  have K9H := Lib.hid K9
                  clear p6 r6 d0 d1 d2 d3 K9
                  refine wp_region_later (by kernel_rfl) (by kernel_rfl) ?_
                  repeat (go_big_quiet_step (fail))
                  refine wpQuiet_nil ?_
                  intro _ hw'
                  obtain ⟨pq, hw''⟩ := hw'
                  subst hw''
                  have R7 := Lib.hid (R6.out.below pq.hb)
                  have L9 := K9H.out.below pq.hb
                  have d0 := L9.cell 0 rfl
                  have d1 := L9.cell 1 rfl
                  have d2 := L9.cell 2 rfl
                  have d3 := L9.cell 3 rfl
                  have f0 := R7.out.c.frozen 0
                  have f1 := R7.out.c.frozen 1
                  have f2 := R7.out.c.frozen 2
                  have f3 := R7.out.c.frozen 3
                  have c0 := R7.out.c.cell 0 rfl
                  have c1 := R7.out.c.cell 1 rfl
                  have c2 := R7.out.c.cell 2 rfl
                  have c3 := R7.out.c.cell 3 rfl
                  clear k0 k1 k2 k3 L9
                  go_wp2_with fail
                  exact ⟨⟨z - 1, (C : Nat), rfl, by omega, by omega, by omega, by rw [HRN.out, HQE.out]; exact R7.out.set4 hgc 0 0 (C : Nat)⟩, by simp [intOf]; omega⟩
                · have hq1 : ((q : Int) != 0) = true := bne_iff_ne.2 (by omega)
                  have hq2 : ((0 : Int) != (q : Int)) = true := bne_iff_ne.2 (by omega)
                  clear hq0
                  go_wp2_with (first
                    | (go_at_call 20; (with_reducible refine (HM.out _ (HT.out.below RH.out.b (Nat.le_refl _))).mono ?_); rintro e w5 ⟨rfl, hb5⟩; have K9 := Blk.new w5 36 [.int .u32 2, .int .i64 (q : Nat), .int .i64 (q : Nat), .int .i64 (C : Nat)]; have R6 := Lib.hid ((RH.out.below hb5).alloc (.cells #[.int .u32 2, .int .i64 (q : Nat), .int .i64 (q : Nat), .int .i64 (C : Nat)] 36)); have p6 := R6.out.p.cell; have r6 := R6.out.r m hmn; rw [HQE.out] at r6; have d0 := K9.cell 0 rfl; have d1 := K9.cell 1 rfl; have d2 := K9.cell 2 rfl; have d3 := K9.cell 3 rfl))
                  have k0 := Later.cell p6
                  have k1 := Later.cell r6
                  have k2 := Later.cell d1
                  have k3 := Later.cell d2
                  have K9H := Lib.hid K9
                  clear p6 r6 d0 d1 d2 d3 K9
                  refine wp_region_later (by kernel_rfl) (by kernel_rfl) ?_
                  repeat (go_big_quiet_step (fail))
                  refine wpQuiet_nil ?_
                  intro _ hw'
                  obtain ⟨pq, hw''⟩ := hw'
                  subst hw''
                  have R7 := Lib.hid (R6.out.below pq.hb)
                  have L9 := K9H.out.below pq.hb
                  have d0 := L9.cell 0 rfl
                  have d1 := L9.cell 1 rfl
                  have d2 := L9.cell 2 rfl
                  have d3 := L9.cell 3 rfl
                  have f0 := R7.out.c.frozen 0
                  have f1 := R7.out.c.frozen 1
                  have f2 := R7.out.c.frozen 2
                  have f3 := R7.out.c.frozen 3
                  have c0 := R7.out.c.cell 0 rfl
                  have c1 := R7.out.c.cell 1 rfl
                  have c2 := R7.out.c.cell 2 rfl
                  have c3 := R7.out.c.cell 3 rfl
                  clear k0 k1 k2 k3 L9
                  go_wp2_with fail
                  exact ⟨⟨z - 1, (C : Nat), rfl, by omega, by omega, by omega, by rw [HRN.out, HQE.out]; exact R7.out.set4 hgc q q (C : Nat)⟩, by simp [intOf]; omega⟩
              · obtain rfl : z = -2 := by omega
                go_wp2_with fail
                refine ⟨by simp, .inl ⟨_, _, rfl, run_takeDeferred R.d, ?_⟩⟩
                refine ⟨.bool true, ?_, rfl, R.b.trans (belowK_b (w := w) (Nat.le_refl _) _ D _ _ HQ0.out R.d rfl rfl)⟩
                simp [results, Tryd.f7, go_sem]
      case true =>
        go_loopw [8] (fun i wr => ∃ (k : Nat) (gl : Int), i = .int .i64 (k : Nat) ∧ 1 ≤ k ∧ k ≤ n + 2 ∧ 0 ≤ gl ∧ Roam w cb g2 cap2 n D (bs t) (atN (bs t) (min (k - 1) n)) (0) gl wr) (fun i _ => n + 2 - (intOf i).toNat)
        case atStart => exact ⟨1, 77, rfl, by omega, by omega, by omega, by rw [show min (1 - 1) n = 0 by omega, atN_zero]; exact ROAM⟩
        case round =>
          clear ROAM
          obtain ⟨k, gl, rfl, hk1, hk2, hgl, R⟩ := hrel
          by_cases hkn : k ≤ n + 1
          · obtain ⟨j, hj⟩ : ∃ j, min (k - 1) n = j := ⟨_, rfl⟩
            obtain ⟨m, hm⟩ : ∃ m, min k n = m := ⟨_, rfl⟩
            have hjn : j ≤ n := by omega
            have hmn : m ≤ n := by omega
            have hmj : min (j + 1) n = m := by omega
            have hq := roam_right (bs t) j (by rw [HN.out]; exact hjn) gl
            rw [HN.out, hmj] at hq
            rw [hj] at R
            have hAs := HPB.out j hjn
            have hqs := HPB.out m hmn
            obtain ⟨A, hA⟩ : ∃ A, atN (bs t) j = A := ⟨_, rfl⟩
            rw [hA] at R hq hAs
            obtain ⟨q, hqe⟩ : ∃ q, atN (bs t) m = q := ⟨_, rfl⟩
            have HQE := Lib.hid hqe
            rw [hqe] at hq hqs
            have HM := Lib.hid (fun w hT => HMV.out A (0) gl hAs (Nat.zero_le _) hgl 2 (by decide) (by decide) (by decide) q hq.symm true ((0 : Nat) : Int) (by simp) w hT)
            rw [show ((2 : Nat) : Int) = 2 from rfl] at HM
            have HW := Lib.hid (fun w hT => HWH.out q hqs w hT)
            obtain ⟨C, hC⟩ : ∃ C, colOf (bs t) q = C := ⟨_, rfl⟩
            obtain ⟨L, hL⟩ : ∃ L, lnOf (bs t) q = L := ⟨_, rfl⟩
            rw [hC] at HM HW
            rw [hL] at HW
            have HRN := Lib.hid (show min (k + 1 - 1) n = m by omega)
            have hmin : min (k : Int) (n : Int) = (m : Int) := by omega
            have hki : (k : Int) ≤ (n : Int) + 1 := by omega
            have hm0 : (0 : Int) ≤ (m : Int) := by omega
            have hm1 : (m : Int) < (n : Int) + 1 := by omega
            have a0 := R.c.cell 0 rfl
            have a1 := R.c.cell 1 rfl
            have a2 := R.c.cell 2 rfl
            have a3 := R.c.cell 3 rfl
            have p0 := R.p.cell
            have RH := Lib.hid R
            clear hj hm hmj hq hA hqe hC hL hk2 hkn hjn R
            by_cases hq0 : q = 0
            · subst hq0
              rw [show ((0 : Nat) : Int) = 0 from rfl] at HM HW
              go_wp2_with (first
                | (go_at_call 20; (with_reducible refine (HM.out _ (HT.out.below RH.out.b (Nat.le_refl _))).mono ?_); rintro e w5 ⟨rfl, hb5⟩; have K9 := Lib.hid (Blk.new w5 36 [.int .u32 2, .int .i64 0, .int .i64 0, .int .i64 (C : Nat)]); have R6 := Lib.hid ((RH.out.below hb5).alloc (.cells #[.int .u32 2, .int .i64 0, .int .i64 0, .int .i64 (C : Nat)] 36)); have p6 := R6.out.p.cell; have r6 := R6.out.r m hmn; rw [HQE.out, show ((0 : Nat) : Int) = 0 from rfl] at r6)
                | (go_at_call 25; (with_reducible refine (HW.out _ (HT.out.below R6.out.b (Nat.le_refl _))).mono ?_); rintro e w7 ⟨rfl, hb7⟩; have tS := Two.new w7 45 (.int .i64 (L : Nat)) (.int .i64 (C : Nat)); have R8 := Lib.hid ((R6.out.below hb7).alloc (.cells #[.int .i64 (L : Nat), .int .i64 (C : Nat)] 45)); have K8 := (K9.out.below hb7).alloc (.cells #[.int .i64 (L : Nat), .int .i64 (C : Nat)] 45); have s1 := tS.cell1; have d0 := K8.cell 0 rfl; have d1 := K8.cell 1 rfl; have d2 := K8.cell 2 rfl; have d3 := K8.cell 3 rfl; have f0 := R8.out.c.frozen 0; have f1 := R8.out.c.frozen 1; have f2 := R8.out.c.frozen 2; have f3 := R8.out.c.frozen 3; have c0 := R8.out.c.cell 0 rfl; have c1 := R8.out.c.cell 1 rfl; have c2 := R8.out.c.cell 2 rfl; have c3 := R8.out.c.cell 3 rfl))
              exact ⟨⟨k + 1, (C : Nat), by go_num, by omega, by omega, by omega, by rw [HRN.out, HQE.out]; exact R8.out.set4 hgc 0 0 (C : Nat)⟩, by simp [intOf]; omega⟩
            · have hq1 : ((q : Int) != 0) = true := bne_iff_ne.2 (by omega)
              have hq2 : ((0 : Int) != (q : Int)) = true := bne_iff_ne.2 (by omega)
              rw [show ((0 : Nat) : Int) = 0 from rfl] at HM
              clear hq0
              go_wp2_with (first
                | (go_at_call 20; (with_reducible refine (HM.out _ (HT.out.below RH.out.b (Nat.le_refl _))).mono ?_); rintro e w5 ⟨rfl, hb5⟩; have K9 := Lib.hid (Blk.new w5 36 [.int .u32 2, .int .i64 (q : Nat), .int .i64 0, .int .i64 (C : Nat)]); have R6 := Lib.hid ((RH.out.below hb5).alloc (.cells #[.int .u32 2, .int .i64 (q : Nat), .int .i64 0, .int .i64 (C : Nat)] 36)); have p6 := R6.out.p.cell; have r6 := R6.out.r m hmn; rw [HQE.out] at r6)
                | (go_at_call 25; (with_reducible refine (HW.out _ (HT.out.below R6.out.b (Nat.le_refl _))).mono ?_); rintro e w7 ⟨rfl, hb7⟩; have tS := Two.new w7 45 (.int .i64 (L : Nat)) (.int .i64 (C : Nat)); have R8 := Lib.hid ((R6.out.below hb7).alloc (.cells #[.int .i64 (L : Nat), .int .i64 (C : Nat)] 45)); have K8 := (K9.out.below hb7).alloc (.cells #[.int .i64 (L : Nat), .int .i64 (C : Nat)] 45); have s1 := tS.cell1; have d0 := K8.cell 0 rfl; have d1 := K8.cell 1 rfl; have d2 := K8.cell 2 rfl; have d3 := K8.cell 3 rfl; have f0 := R8.out.c.frozen 0; have f1 := R8.out.c.frozen 1; have f2 := R8.out.c.frozen 2; have f3 := R8.out.c.frozen 3; have c0 := R8.out.c.cell 0 rfl; have c1 := R8.out.c.cell 1 rfl; have c2 := R8.out.c.cell 2 rfl; have c3 := R8.out.c.cell 3 rfl))
              exact ⟨⟨k + 1, (C : Nat), by go_num, by omega, by omega, by omega, by rw [HRN.out, HQE.out]; exact R8.out.set4 hgc q 0 (C : Nat)⟩, by simp [intOf]; omega⟩
          · obtain rfl : k = n + 2 := by omega
            have p0 := R.p.cell
            rw [show min (n + 2 - 1) n = n by omega] at R
            have hkd : decide ((n : Int) + 2 ≤ (n : Int) + 1) = false := decide_eq_false (by omega)
            rw [show ((n + 2 : Nat) : Int) = (n : Int) + 2 from rfl]
            have RH := Lib.hid R
            clear R hkn hk1 hk2
            obtain ⟨W9, hW9⟩ : ∃ W, wr = W := ⟨_, rfl⟩
            rw [hW9] at RH p0 ⊢
            clear hW9
            go_wp2_with fail
            clear hkd p0
            go_loopw [14] (fun i wr => ∃ (z gl : Int), i = .int .i64 z ∧ -2 ≤ z ∧ z ≤ (n : Int) - 1 ∧ 0 ≤ gl ∧ Roam w cb g2 cap2 n D (bs t) (atN (bs t) (max (z + 1) 0).toNat) (0) gl wr) (fun i _ => (intOf i + 2).toNat)
            case atStart =>
              refine ⟨(n : Int) - 1, gl, ?_, by omega, by omega, hgl, ?_⟩
              · first
                  | rfl
                  | (congr 1; omega)
              · rw [show (max ((n : Int) - 1 + 1) 0).toNat = n by omega]
                exact RH.out
            case round =>
              clear RH
              clear hgl gl
              obtain ⟨z, gl, rfl, hz1', hz2', hgl, R⟩ := hrel
              by_cases hzz : -1 ≤ z
              · obtain ⟨j, hj⟩ : ∃ j, (max (z + 1) 0).toNat = j := ⟨_, rfl⟩
                obtain ⟨m, hm⟩ : ∃ m, (max z 0).toNat = m := ⟨_, rfl⟩
                have hjn : j ≤ n := by omega
                have hmn : m ≤ n := by omega
                have hmj : j - 1 = m := by omega
                have hq := roam_left (bs t) j (by rw [HN.out]; exact hjn) gl
                rw [hmj] at hq
                rw [hj] at R
                have hAs := HPB.out j hjn
                have hqs := HPB.out m hmn
                obtain ⟨A, hA⟩ : ∃ A, atN (bs t) j = A := ⟨_, rfl⟩
                rw [hA] at R hq hAs
                obtain ⟨q, hqe⟩ : ∃ q, atN (bs t) m = q := ⟨_, rfl⟩
                have HQE := Lib.hid hqe
                rw [hqe] at hq hqs
                have HM := Lib.hid (fun w hT => HMV.out A (0) gl hAs (Nat.zero_le _) hgl 1 (by decide) (by decide) (by decide) q hq.symm true ((0 : Nat) : Int) (by simp) w hT)
                rw [show ((1 : Nat) : Int) = 1 from rfl] at HM
                obtain ⟨C, hC⟩ : ∃ C, colOf (bs t) q = C := ⟨_, rfl⟩
                rw [hC] at HM
                have HRN := Lib.hid (show (max (z - 1 + 1) 0).toNat = m by omega)
                have hmax : max z 0 = (m : Int) := by omega
                have hm0 : (0 : Int) ≤ (m : Int) := by omega
                have hm1 : (m : Int) < (n : Int) + 1 := by omega
                have hm2 : m < n + 1 := by omega
                have a0 := R.c.cell 0 rfl
                have a1 := R.c.cell 1 rfl
                have a2 := R.c.cell 2 rfl
                have a3 := R.c.cell 3 rfl
                have RH := Lib.hid R
                clear hj hm hmj hq hA hqe hC hjn R
                by_cases hq0 : q = 0
                · subst hq0
                  rw [show ((0 : Nat) : Int) = 0 from rfl] at HM
                  go_wp2_with (first
                    | (go_at_call 20; (with_reducible refine (HM.out _ (HT.out.below RH.out.b (Nat.le_refl _))).mono ?_); rintro e w5 ⟨rfl, hb5⟩; have K9 := Blk.new w5 36 [.int .u32 2, .int .i64 0, .int .i64 0, .int .i64 (C : Nat)]; have R6 := Lib.hid ((RH.out.below hb5).alloc (.cells #[.int .u32 2, .int .i64 0, .int .i64 0, .int .i64 (C : Nat)] 36)); have p6 := R6.out.p.cell; have r6 := R6.out.r m hmn; rw [HQE.out, show ((0 : Nat) : Int) = 0 from rfl] at r6; have d0 := K9.cell 0 rfl; have d1 := K9.cell 1 rfl; have d2 := K9.cell 2 rfl; have d3 := K9.cell 3 rfl))
                  have k0 := Later.cell p6
                  have k1 := Later.cell r6
                  have k2 := Later.cell d1
                  have k3 := Later.cell d2
                  have K9H := Lib.hid K9
                  clear p6 r6 d0 d1 d2 d3 K9
                  refine wp_region_later (by kernel_rfl) (by kernel_rfl) ?_
                  repeat (go_big_quiet_step (fail))
                  refine wpQuiet_nil ?_
                  intro _ hw'
                  obtain ⟨pq, hw''⟩ := hw'
                  subst hw''
                  have R7 := Lib.hid (R6.out.below pq.hb)
                  have L9 := K9H.out.below pq.hb
                  have d0 := L9.cell 0 rfl
                  have d1 := L9.cell 1 rfl
                  have d2 := L9.cell 2 rfl
                  have d3 := L9.cell 3 rfl
                  have f0 := R7.out.c.frozen 0
                  have f1 := R7.out.c.frozen 1
                  have f2 := R7.out.c.frozen 2
                  have f3 := R7.out.c.frozen 3
                  have c0 := R7.out.c.cell 0 rfl
                  have c1 := R7.out.c.cell 1 rfl
                  have c2 := R7.out.c.cell 2 rfl
                  have c3 := R7.out.c.cell 3 rfl
                  clear k0 k1 k2 k3 L9
                  go_wp2_with fail
                  exact ⟨⟨z - 1, (C : Nat), rfl, by omega, by omega, by omega, by rw [HRN.out, HQE.out]; exact R7.out.set4 hgc 0 0 (C : Nat)⟩, by simp [intOf]; omega⟩
                · have hq1 : ((q : Int) != 0) = true := bne_iff_ne.2 (by omega)
                  have hq2 : ((0 : Int) != (q : Int)) = true := bne_iff_ne.2 (by omega)
                  rw [show ((0 : Nat) : Int) = 0 from rfl] at HM
                  clear hq0
                  go_wp2_with (first
                    | (go_at_call 20; (with_reducible refine (HM.out _ (HT.out.below RH.out.b (Nat.le_refl _))).mono ?_); rintro e w5 ⟨rfl, hb5⟩; have K9 := Blk.new w5 36 [.int .u32 2, .int .i64 (q : Nat), .int .i64 0, .int .i64 (C : Nat)]; have R6 := Lib.hid ((RH.out.below hb5).alloc (.cells #[.int .u32 2, .int .i64 (q : Nat), .int .i64 0, .int .i64 (C : Nat)] 36)); have p6 := R6.out.p.cell; have r6 := R6.out.r m hmn; rw [HQE.out] at r6; have d0 := K9.cell 0 rfl; have d1 := K9.cell 1 rfl; have d2 := K9.cell 2 rfl; have d3 := K9.cell 3 rfl))
                  have k0 := Later.cell p6
                  have k1 := Later.cell r6
                  have k2 := Later.cell d1
                  have k3 := Later.cell d2
                  have K9H := Lib.hid K9
                  clear p6 r6 d0 d1 d2 d3 K9
                  refine wp_region_later (by kernel_rfl) (by kernel_rfl) ?_
                  repeat (go_big_quiet_step (fail))
                  refine wpQuiet_nil ?_
                  intro _ hw'
                  obtain ⟨pq, hw''⟩ := hw'
                  subst hw''
                  have R7 := Lib.hid (R6.out.below pq.hb)
                  have L9 := K9H.out.below pq.hb
                  have d0 := L9.cell 0 rfl
                  have d1 := L9.cell 1 rfl
                  have d2 := L9.cell 2 rfl
                  have d3 := L9.cell 3 rfl
                  have f0 := R7.out.c.frozen 0
                  have f1 := R7.out.c.frozen 1
                  have f2 := R7.out.c.frozen 2
                  have f3 := R7.out.c.frozen 3
                  have c0 := R7.out.c.cell 0 rfl
                  have c1 := R7.out.c.cell 1 rfl
                  have c2 := R7.out.c.cell 2 rfl
                  have c3 := R7.out.c.cell 3 rfl
                  clear k0 k1 k2 k3 L9
                  go_wp2_with fail
                  exact ⟨⟨z - 1, (C : Nat), rfl, by omega, by omega, by omega, by rw [HRN.out, HQE.out]; exact R7.out.set4 hgc q 0 (C : Nat)⟩, by simp [intOf]; omega⟩
              · obtain rfl : z = -2 := by omega
                go_wp2_with fail
                refine ⟨by simp, .inl ⟨_, _, rfl, run_takeDeferred R.d, ?_⟩⟩
                refine ⟨.bool true, ?_, rfl, R.b.trans (belowK_b (w := w) (Nat.le_refl _) _ D _ _ HQ0.out R.d rfl rfl)⟩
                simp [results, Tryd.f7, go_sem]
  · have h3i : decide (300 < (s.size : Int)) = false := decide_eq_false (by omega)
    have h3n : decide (300 < s.size) = false := decide_eq_false h3
    obtain ⟨t, hte⟩ : ∃ t, s = t := ⟨_, rfl⟩
    subst hte
    obtain ⟨t, rfl⟩ : ∃ t, t = s := ⟨_, rfl⟩
    have ht : t.size ≤ 300 := by omega
    refine callsIn_wide.1 (callsIn_of_wp_marks (n := 9) Tryd.func7 rfl trivial (wpIn_wide.2 ?_) rfl)
    simp only [Tryd.ntmps7, List.size_toArray, List.length_cons, List.length_nil, Nat.reduceAdd, Nat.reduceSub, Array.replicate_succ, Array.replicate_zero, List.push_toArray, List.append_toArray, List.nil_append, List.cons_append]
    go_wp2_with (first
      | (go_at_call 19; (with_reducible refine (HA.out _ HT.out).mono ?_); rintro e w1 ⟨rfl, hb1⟩)
      | (go_at_call 27; (with_reducible refine (all_in t _).mono ?_); rintro e w2 ⟨rfl, rfl⟩))
    clear HA h3 h3i h3n
    obtain ⟨cb, hcb⟩ : ∃ cb, w1.heap.size = cb := ⟨_, rfl⟩
    have hsz1 := hb1.size
    obtain ⟨W3, hW3⟩ : ∃ W3, (((w1.alloc (.cells #[.int .u32 2, .int .i64 0, .int .i64 0, .int .i64 77] 36)).alloc (.cells #[] 3)).alloc (.cells #[.slice (some ⟨cb + 1, 0, none⟩) 0 0] 53)).alloc (.cells #[.string t] 9) = W3 := ⟨_, rfl⟩
    have K0 : Blk W3 cb 36 [.int .u32 2, .int .i64 0, .int .i64 0, .int .i64 77] := by
      rw [← hW3, ← hcb]
      exact (((Blk.new w1 36 [.int .u32 2, .int .i64 0, .int .i64 0, .int .i64 77]).alloc _).alloc _).alloc _
    have R0 : W3.ownsRow (cb + 1) 3 1 (.slice (some ⟨cb + 1, 0, none⟩) 0 0) 0 [] := by
      have := World.ownsRow_made (w1.alloc (.cells #[.int .u32 2, .int .i64 0, .int .i64 0, .int .i64 77] 36)) (e := 3) (size := 1) #[] 0 (Nat.le_refl _) (by decide) rfl
      rw [World.size_alloc, hcb] at this
      rw [← hW3]
      exact (this.alloc _).alloc _
    have bP : Boxed W3 (cb + 1 + 1) 53 (.slice (some ⟨cb + 1, 0, none⟩) 0 0) := by
      have := Boxed.new ((w1.alloc (.cells #[.int .u32 2, .int .i64 0, .int .i64 0, .int .i64 77] 36)).alloc (.cells #[] 3)) 53 (.slice (some ⟨cb + 1, 0, none⟩) 0 0)
      rw [World.size_alloc, World.size_alloc, hcb] at this
      rw [← hW3]
      exact this.alloc _
    have bS : Boxed W3 (cb + 1 + 1 + 1) 9 (.string t) := by
      have := Boxed.new (((w1.alloc (.cells #[.int .u32 2, .int .i64 0, .int .i64 0, .int .i64 77] 36)).alloc (.cells #[] 3)).alloc (.cells #[.slice (some ⟨cb + 1, 0, none⟩) 0 0] 53)) 9 (.string t)
      rw [World.size_alloc, World.size_alloc, World.size_alloc, hcb] at this
      rw [← hW3]
      exact this
    have hbw : Below w.heap.size w W3 := by
      rw [← hW3]
      exact al (al (al (al hb1 _) _) _) _
    rw [hcb] at hsz1 ⊢
    rw [hW3]
    have hsz3 : cb + 1 + 1 + 1 + 1 ≤ W3.heap.size := by have := bS.lt; omega
    clear hW3 hcb hb1
    have hns := bs_len_le t
    obtain ⟨n, hn⟩ : ∃ n, countN (bs t) = n := ⟨_, rfl⟩
    rw [hn] at hns
    have HN := Lib.hid hn
    clear hn
    refine (wpIn_wide (n := 9)).1 ?_
    refine' wpIn_rangeFunc_ownG rfl (by decide) (gf := 55) (lb := #[.pointer (some ⟨cb + 1 + 1 + 1, 0, none⟩)]) rfl trivial (enters_of Tryd.func55 (by kernel_rfl) rfl)
      (all_stops (9 - 1) (by decide) (cb + 1 + 1 + 1) (cb + 1) t W3 bS.cell) kpB_t (kpB_b (by omega)) (Below.refl _ _) (fun _ => rfl)
      (fun (pre : List (Nat × Nat)) W => (∃ v', Boxed W (cb + 1 + 1) 53 v' ∧ W.ownsRow (cb + 1) 3 1 v' pre.length (pre.map fun x => Value.int .i64 (x.1 : Nat)) ∧ True) ∧ Boxed W (cb + 1 + 1 + 1) 9 (.string t) ∧ Below (cb + 1) W3 W)
      (fun _ _ _ => False)
      (OwnFrom.and (Own.from (holdsRow_own _ _ _ _ _ (fun (pre : List (Nat × Nat)) => pre.length) (fun (pre : List (Nat × Nat)) => pre.map fun x => Value.int .i64 (x.1 : Nat)) (fun _ _ => True)) _) (OwnFrom.and (Own.from (boxed_own _ _ (fun _ => .string t)) _) (ownFrom_below (by omega) (by omega))))
      (fun _ _ _ _ _ hs _ _ => hs)
      ⟨⟨_, bP, R0, trivial⟩, bS, Below.refl _ _⟩ _ ?assign ?body ?done ?stop
    case assign =>
      intro l x W K hK
      dsimp only [encP]
      gi_wp2
      exact hK
    case body =>
      rintro l pre ⟨x1, x2⟩ W ⟨⟨v', c3, hr3, _⟩, c4, hbW⟩ hlen
      have d3 := c3.cell
      have f3 := c3.frozen
      have hszX : cb + 1 ≤ W.heap.size := by have := c4.lt; omega
      have hle3 : pre.length ≤ 300 := by rw [HN.out] at hlen; omega
      gi_wp2_with (gi_at_builtin; refine wpListIn_append_own _ rfl _ _ 53 rfl (cb + 1) 3 i0 (.int .i64 0) 1 8 Tryd.underlying53 hi hz0 hz1 hz2 rfl (by decide) _ _ _ rfl (hr3.alloc _) ⟨W.heap.size, 0, none⟩ 1 1 [.int .i64 (x1 : Nat)] rfl rfl (cells_new _ _ _) (by simp [Value.oneCell']) (by unfold maxLen; omega) (by omega) (by rw [World.size_alloc]; exact Nat.le_succ_of_le hszX) ?_; intro v2 w2 hown2 hgrow2 _; obtain ⟨g2, cap2, rfl⟩ := ownsRow_succ hown2; obtain ⟨hv1, hv2, hr2, hk2, hb2⟩ := Boxed.appended c3 (by decide) hr3 hszX (by omega) hown2 hgrow2; have hc1 := hv1.cell; have hf1 := hv1.frozen)
      have b4Y := ((c4.alloc (.cells #[.int .i64 (x1 : Nat)] 3)).kept hgrow2 ((c4.alloc (.cells #[.int .i64 (x1 : Nat)] 3)).not_row (by decide) (hr3.alloc _))).kept (grownBy_setCell' w2 (cb + 1 + 1) (.slice (some ⟨g2, 0, none⟩) (pre.length + 1) cap2)) (by simp)
      exact ⟨hk2.from _, ⟨hk2.walks, hb2⟩, ⟨_, hv2, by rw [List.length_append, List.length_singleton, List.map_append]; exact hr2⟩, b4Y, hbW.trans hb2⟩
    case stop =>
      rintro D c pre W hD _ h _
      exact h.elim
    case done =>
      rintro D ys W2 hD rfl ⟨⟨v', c3, hr3, _⟩, c4, hbW⟩ hK
      rw [HN.out] at hr3
      rw [ups_length] at hr3
      have d3 := c3.cell
      have f3 := c3.frozen
      have hszX : cb + 1 ≤ W2.heap.size := by have := c4.lt; omega
      have K2 : Blk W2 cb 36 [.int .u32 2, .int .i64 0, .int .i64 0, .int .i64 77] := (hbW.block cb (Nat.lt_succ_self _)).trans K0
      have hbW2 := hbw.trans (hbW.mono (show w.heap.size ≤ cb + 1 by omega))
      have hR3 := Lib.hid hr3
      clear hr3 K0 R0 bP bS hbw hbW c4
      go_wp2_with (at_builtin; refine wpList_append_own _ rfl _ _ 53 rfl (cb + 1) 3 i0 (.int .i64 0) 1 8 Tryd.underlying53 hi hz0 hz1 hz2 rfl (by decide) _ _ _ rfl (hR3.out.alloc _) ⟨W2.heap.size, 0, none⟩ 1 1 [.int .i64 (t.size : Nat)] rfl (by simp) (cells_new _ _ _) (by simp [Value.oneCell']) (by unfold maxLen; omega) (by omega) (by rw [World.size_alloc]; exact Nat.le_succ_of_le hszX) ?_; intro v4 w4 hown4 hgrow4 _; obtain ⟨g2, cap2, rfl⟩ := ownsRow_succ hown4; obtain ⟨hv1, hv2, hr2, hk2, hb2⟩ := Boxed.appended c3 (by decide) hR3.out hszX (by omega) hown4 hgrow4; have hc1 := hv1.cell; have hf1 := hv1.frozen)
      have hgb : cb + 1 ≤ g2 := (hr2.lt g2 rfl).1
      have hgc : g2 ≠ cb := by omega
      have ROAM : Roam w cb g2 cap2 n D (bs t) 0 0 77 (w4.setCell ⟨cb + 1 + 1, 0, none⟩ (.slice (some ⟨g2, 0, none⟩) (n + 1) cap2)) := by
        refine ⟨(hb2.block cb (Nat.lt_succ_self _)).trans K2, hv2, fun k hk => ?_, hk2.same D _ hK rfl, hbW2.trans (hb2.mono (show w.heap.size ≤ cb + 1 by omega)), hsz1⟩
        rw [hr2.cellAt k (by omega)]
        rcases Nat.lt_or_ge k n with h | h
        · rw [List.getElem?_append_left (by rw [List.length_map, ups_length]; exact h), List.getElem?_map, ups_get _ _ _ h]
          rfl
        · obtain rfl : k = n := by omega
          rw [List.getElem?_append_right (by rw [List.length_map, ups_length]; exact Nat.le_refl _), List.length_map, ups_length, Nat.sub_self]
          rw [← HN.out, roam_end, ← size_bs]
          rfl
      obtain ⟨W5, hW5⟩ : ∃ W5, w4.setCell ⟨cb + 1 + 1, 0, none⟩ (.slice (some ⟨g2, 0, none⟩) (n + 1) cap2) = W5 := ⟨_, rfl⟩
      rw [hW5] at ROAM ⊢
      clear hW5 hv1 hv2 hr2 hk2 hb2 hown4 hgrow4 hc1 hf1 hR3 c3 d3 f3 hK K2 hbW2 hszX
      have HMV := Lib.hid (fun (a an : Nat) (gl : Int) (ha : a ≤ t.size) (han : an ≤ t.size) (hg : 0 ≤ gl) (m : Nat) (h1 : 1 ≤ m) (h8 : m ≤ 8) (h5 : ¬ (m = 5 ∨ m = 6)) (q : Nat) hq (k : Bool) (B2 : Int) hB2 w hT => move_ok t (by omega) 2 a an gl ha han hg m h1 h8 k q hq B2 (colOf (bs t) q : Nat) hB2 (by rw [if_neg h5]) w hT)
      have HWH := Lib.hid (fun (c : Nat) (hc : c ≤ t.size) w hT => lwhere_at t (by omega) c hc w hT)
      have HPB : Hid (∀ k, k ≤ n → atN (bs t) k ≤ t.size) := Lib.hid fun k _ => by rw [size_bs]; exact atN_le _ _
      have hDw : w.heap.size ≤ D := by omega
      have HQ0 := Lib.hid hDw
      clear hDw hsz3 hgb
      clear hD
      cases keep
      case false =>
        go_loopw [8] (fun i wr => ∃ (k : Nat) (gl : Int), i = .int .i64 (k : Nat) ∧ 1 ≤ k ∧ k ≤ n + 2 ∧ 0 ≤ gl ∧ Roam w cb g2 cap2 n D (bs t) (atN (bs t) (min (k - 1) n)) (atN (bs t) (min (k - 1) n)) gl wr) (fun i _ => n + 2 - (intOf i).toNat)
        case atStart => exact ⟨1, 77, rfl, by omega, by omega, by omega, by rw [show min (1 - 1) n = 0 by omega, atN_zero]; exact ROAM⟩
        case round =>
          clear ROAM
          obtain ⟨k, gl, rfl, hk1, hk2, hgl, R⟩ := hrel
          by_cases hkn : k ≤ n + 1
          · obtain ⟨j, hj⟩ : ∃ j, min (k - 1) n = j := ⟨_, rfl⟩
            obtain ⟨m, hm⟩ : ∃ m, min k n = m := ⟨_, rfl⟩
            have hjn : j ≤ n := by omega
            have hmn : m ≤ n := by omega
            have hmj : min (j + 1) n = m := by omega
            have hq := roam_right (bs t) j (by rw [HN.out]; exact hjn) gl
            rw [HN.out, hmj] at hq
            rw [hj] at R
            have hAs := HPB.out j hjn
            have hqs := HPB.out m hmn
            obtain ⟨A, hA⟩ : ∃ A, atN (bs t) j = A := ⟨_, rfl⟩
            rw [hA] at R hq hAs
            obtain ⟨q, hqe⟩ : ∃ q, atN (bs t) m = q := ⟨_, rfl⟩
            have HQE := Lib.hid hqe
            rw [hqe] at hq hqs
            have HM := Lib.hid (fun w hT => HMV.out A (A) gl hAs (hAs) hgl 2 (by decide) (by decide) (by decide) q hq.symm false ((q : Nat) : Int) (by simp) w hT)
            rw [show ((2 : Nat) : Int) = 2 from rfl] at HM
            have HW := Lib.hid (fun w hT => HWH.out q hqs w hT)
            obtain ⟨C, hC⟩ : ∃ C, colOf (bs t) q = C := ⟨_, rfl⟩
            obtain ⟨L, hL⟩ : ∃ L, lnOf (bs t) q = L := ⟨_, rfl⟩
            rw [hC] at HM HW
            rw [hL] at HW
            have HRN := Lib.hid (show min (k + 1 - 1) n = m by omega)
            have hmin : min (k : Int) (n : Int) = (m : Int) := by omega
            have hki : (k : Int) ≤ (n : Int) + 1 := by omega
            have hm0 : (0 : Int) ≤ (m : Int) := by omega
            have hm1 : (m : Int) < (n : Int) + 1 := by omega
            have a0 := R.c.cell 0 rfl
            have a1 := R.c.cell 1 rfl
            have a2 := R.c.cell 2 rfl
            have a3 := R.c.cell 3 rfl
            have p0 := R.p.cell
            have RH := Lib.hid R
            clear hj hm hmj hq hA hqe hC hL hk2 hkn hjn R
            by_cases hq0 : q = 0
            · subst hq0
              rw [show ((0 : Nat) : Int) = 0 from rfl] at HM HW
              go_wp2_with (first
                | (go_at_call 20; (with_reducible refine (HM.out _ (HT.out.below RH.out.b (Nat.le_refl _))).mono ?_); rintro e w5 ⟨rfl, hb5⟩; have K9 := Lib.hid (Blk.new w5 36 [.int .u32 2, .int .i64 0, .int .i64 0, .int .i64 (C : Nat)]); have R6 := Lib.hid ((RH.out.below hb5).alloc (.cells #[.int .u32 2, .int .i64 0, .int .i64 0, .int .i64 (C : Nat)] 36)); have p6 := R6.out.p.cell; have r6 := R6.out.r m hmn; rw [HQE.out, show ((0 : Nat) : Int) = 0 from rfl] at r6)
                | (go_at_call 25; (with_reducible refine (HW.out _ (HT.out.below R6.out.b (Nat.le_refl _))).mono ?_); rintro e w7 ⟨rfl, hb7⟩; have tS := Two.new w7 45 (.int .i64 (L : Nat)) (.int .i64 (C : Nat)); have R8 := Lib.hid ((R6.out.below hb7).alloc (.cells #[.int .i64 (L : Nat), .int .i64 (C : Nat)] 45)); have K8 := (K9.out.below hb7).alloc (.cells #[.int .i64 (L : Nat), .int .i64 (C : Nat)] 45); have s1 := tS.cell1; have d0 := K8.cell 0 rfl; have d1 := K8.cell 1 rfl; have d2 := K8.cell 2 rfl; have d3 := K8.cell 3 rfl; have f0 := R8.out.c.frozen 0; have f1 := R8.out.c.frozen 1; have f2 := R8.out.c.frozen 2; have f3 := R8.out.c.frozen 3; have c0 := R8.out.c.cell 0 rfl; have c1 := R8.out.c.cell 1 rfl; have c2 := R8.out.c.cell 2 rfl; have c3 := R8.out.c.cell 3 rfl))
              exact ⟨⟨k + 1, (C : Nat), by go_num, by omega, by omega, by omega, by rw [HRN.out, HQE.out]; exact R8.out.set4 hgc 0 0 (C : Nat)⟩, by simp [intOf]; omega⟩
            · have hq1 : ((q : Int) != 0) = true := bne_iff_ne.2 (by omega)
              have hq2 : ((0 : Int) != (q : Int)) = true := bne_iff_ne.2 (by omega)
              clear hq0
              go_wp2_with (first
                | (go_at_call 20; (with_reducible refine (HM.out _ (HT.out.below RH.out.b (Nat.le_refl _))).mono ?_); rintro e w5 ⟨rfl, hb5⟩; have K9 := Lib.hid (Blk.new w5 36 [.int .u32 2, .int .i64 (q : Nat), .int .i64 (q : Nat), .int .i64 (C : Nat)]); have R6 := Lib.hid ((RH.out.below hb5).alloc (.cells #[.int .u32 2, .int .i64 (q : Nat), .int .i64 (q : Nat), .int .i64 (C : Nat)] 36)); have p6 := R6.out.p.cell; have r6 := R6.out.r m hmn; rw [HQE.out] at r6)
                | (go_at_call 25; (with_reducible refine (HW.out _ (HT.out.below R6.out.b (Nat.le_refl _))).mono ?_); rintro e w7 ⟨rfl, hb7⟩; have tS := Two.new w7 45 (.int .i64 (L : Nat)) (.int .i64 (C : Nat)); have R8 := Lib.hid ((R6.out.below hb7).alloc (.cells #[.int .i64 (L : Nat), .int .i64 (C : Nat)] 45)); have K8 := (K9.out.below hb7).alloc (.cells #[.int .i64 (L : Nat), .int .i64 (C : Nat)] 45); have s1 := tS.cell1; have d0 := K8.cell 0 rfl; have d1 := K8.cell 1 rfl; have d2 := K8.cell 2 rfl; have d3 := K8.cell 3 rfl; have f0 := R8.out.c.frozen 0; have f1 := R8.out.c.frozen 1; have f2 := R8.out.c.frozen 2; have f3 := R8.out.c.frozen 3; have c0 := R8.out.c.cell 0 rfl; have c1 := R8.out.c.cell 1 rfl; have c2 := R8.out.c.cell 2 rfl; have c3 := R8.out.c.cell 3 rfl))
              exact ⟨⟨k + 1, (C : Nat), by go_num, by omega, by omega, by omega, by rw [HRN.out, HQE.out]; exact R8.out.set4 hgc q q (C : Nat)⟩, by simp [intOf]; omega⟩
          · obtain rfl : k = n + 2 := by omega
            have p0 := R.p.cell
            rw [show min (n + 2 - 1) n = n by omega] at R
            have hkd : decide ((n : Int) + 2 ≤ (n : Int) + 1) = false := decide_eq_false (by omega)
            rw [show ((n + 2 : Nat) : Int) = (n : Int) + 2 from rfl]
            have RH := Lib.hid R
            clear R hkn hk1 hk2
            obtain ⟨W9, hW9⟩ : ∃ W, wr = W := ⟨_, rfl⟩
            rw [hW9] at RH p0 ⊢
            clear hW9
            go_wp2_with fail
            clear hkd p0
            go_loopw [14] (fun i wr => ∃ (z gl : Int), i = .int .i64 z ∧ -2 ≤ z ∧ z ≤ (n : Int) - 1 ∧ 0 ≤ gl ∧ Roam w cb g2 cap2 n D (bs t) (atN (bs t) (max (z + 1) 0).toNat) (atN (bs t) (max (z + 1) 0).toNat) gl wr) (fun i _ => (intOf i + 2).toNat)
            case atStart =>
              refine ⟨(n : Int) - 1, gl, ?_, by omega, by omega, hgl, ?_⟩
              · first
                  | rfl
                  | (congr 1; omega)
              · rw [show (max ((n : Int) - 1 + 1) 0).toNat = n by omega]
                exact RH.out
            case round =>
              clear RH
              clear hgl gl
              obtain ⟨z, gl, rfl, hz1', hz2', hgl, R⟩ := hrel
              by_cases hzz : -1 ≤ z
              · obtain ⟨j, hj⟩ : ∃ j, (max (z + 1) 0).toNat = j := ⟨_, rfl⟩
                obtain ⟨m, hm⟩ : ∃ m, (max z 0).toNat = m := ⟨_, rfl⟩
                have hjn : j ≤ n := by omega
                have hmn : m ≤ n := by omega
                have hmj : j - 1 = m := by omega
                have hq := roam_left (bs t) j (by rw [HN.out]; exact hjn) gl
                rw [hmj] at hq
                rw [hj] at R
                have hAs := HPB.out j hjn
                have hqs := HPB.out m hmn
                obtain ⟨A, hA⟩ : ∃ A, atN (bs t) j = A := ⟨_, rfl⟩
                rw [hA] at R hq hAs
                obtain ⟨q, hqe⟩ : ∃ q, atN (bs t) m = q := ⟨_, rfl⟩
                have HQE := Lib.hid hqe
                rw [hqe] at hq hqs
                have HM := Lib.hid (fun w hT => HMV.out A (A) gl hAs (hAs) hgl 1 (by decide) (by decide) (by decide) q hq.symm false ((q : Nat) : Int) (by simp) w hT)
                rw [show ((1 : Nat) : Int) = 1 from rfl] at HM
                obtain ⟨C, hC⟩ : ∃ C, colOf (bs t) q = C := ⟨_, rfl⟩
                rw [hC] at HM
                have HRN := Lib.hid (show (max (z - 1 + 1) 0).toNat = m by omega)
                have hmax : max z 0 = (m : Int) := by omega
                have hm0 : (0 : Int) ≤ (m : Int) := by omega
                have hm1 : (m : Int) < (n : Int) + 1 := by omega
                have hm2 : m < n + 1 := by omega
                have a0 := R.c.cell 0 rfl
                have a1 := R.c.cell 1 rfl
                have a2 := R.c.cell 2 rfl
                have a3 := R.c.cell 3 rfl
                have RH := Lib.hid R
                clear hj hm hmj hq hA hqe hC hjn R
                by_cases hq0 : q = 0
                · subst hq0
                  rw [show ((0 : Nat) : Int) = 0 from rfl] at HM
                  go_wp2_with (first
                    | (go_at_call 20; (with_reducible refine (HM.out _ (HT.out.below RH.out.b (Nat.le_refl _))).mono ?_); rintro e w5 ⟨rfl, hb5⟩; have K9 := Blk.new w5 36 [.int .u32 2, .int .i64 0, .int .i64 0, .int .i64 (C : Nat)]; have R6 := Lib.hid ((RH.out.below hb5).alloc (.cells #[.int .u32 2, .int .i64 0, .int .i64 0, .int .i64 (C : Nat)] 36)); have p6 := R6.out.p.cell; have r6 := R6.out.r m hmn; rw [HQE.out, show ((0 : Nat) : Int) = 0 from rfl] at r6; have d0 := K9.cell 0 rfl; have d1 := K9.cell 1 rfl; have d2 := K9.cell 2 rfl; have d3 := K9.cell 3 rfl))
                  have k0 := Later.cell p6
                  have k1 := Later.cell r6
                  have k2 := Later.cell d1
                  have k3 := Later.cell d2
                  have K9H := Lib.hid K9
                  clear p6 r6 d0 d1 d2 d3 K9
                  refine wp_region_later (by kernel_rfl) (by kernel_rfl) ?_
                  repeat (go_big_quiet_step (fail))
                  refine wpQuiet_nil ?_
                  intro _ hw'
                  obtain ⟨pq, hw''⟩ := hw'
                  subst hw''
                  have R7 := Lib.hid (R6.out.below pq.hb)
                  have L9 := K9H.out.below pq.hb
                  have d0 := L9.cell 0 rfl
                  have d1 := L9.cell 1 rfl
                  have d2 := L9.cell 2 rfl
                  have d3 := L9.cell 3 rfl
                  have f0 := R7.out.c.frozen 0
                  have f1 := R7.out.c.frozen 1
                  have f2 := R7.out.c.frozen 2
                  have f3 := R7.out.c.frozen 3
                  have c0 := R7.out.c.cell 0 rfl
                  have c1 := R7.out.c.cell 1 rfl
                  have c2 := R7.out.c.cell 2 rfl
                  have c3 := R7.out.c.cell 3 rfl
                  clear k0 k1 k2 k3 L9
                  go_wp2_with fail
                  exact ⟨⟨z - 1, (C : Nat), rfl, by omega, by omega, by omega, by rw [HRN.out, HQE.out]; exact R7.out.set4 hgc 0 0 (C : Nat)⟩, by simp [intOf]; omega⟩
                · have hq1 : ((q : Int) != 0) = true := bne_iff_ne.2 (by omega)
                  have hq2 : ((0 : Int) != (q : Int)) = true := bne_iff_ne.2 (by omega)
                  clear hq0
                  go_wp2_with (first
                    | (go_at_call 20; (with_reducible refine (HM.out _ (HT.out.below RH.out.b (Nat.le_refl _))).mono ?_); rintro e w5 ⟨rfl, hb5⟩; have K9 := Blk.new w5 36 [.int .u32 2, .int .i64 (q : Nat), .int .i64 (q : Nat), .int .i64 (C : Nat)]; have R6 := Lib.hid ((RH.out.below hb5).alloc (.cells #[.int .u32 2, .int .i64 (q : Nat), .int .i64 (q : Nat), .int .i64 (C : Nat)] 36)); have p6 := R6.out.p.cell; have r6 := R6.out.r m hmn; rw [HQE.out] at r6; have d0 := K9.cell 0 rfl; have d1 := K9.cell 1 rfl; have d2 := K9.cell 2 rfl; have d3 := K9.cell 3 rfl))
                  have k0 := Later.cell p6
                  have k1 := Later.cell r6
                  have k2 := Later.cell d1
                  have k3 := Later.cell d2
                  have K9H := Lib.hid K9
                  clear p6 r6 d0 d1 d2 d3 K9
                  refine wp_region_later (by kernel_rfl) (by kernel_rfl) ?_
                  repeat (go_big_quiet_step (fail))
                  refine wpQuiet_nil ?_
                  intro _ hw'
                  obtain ⟨pq, hw''⟩ := hw'
                  subst hw''
                  have R7 := Lib.hid (R6.out.below pq.hb)
                  have L9 := K9H.out.below pq.hb
                  have d0 := L9.cell 0 rfl
                  have d1 := L9.cell 1 rfl
                  have d2 := L9.cell 2 rfl
                  have d3 := L9.cell 3 rfl
                  have f0 := R7.out.c.frozen 0
                  have f1 := R7.out.c.frozen 1
                  have f2 := R7.out.c.frozen 2
                  have f3 := R7.out.c.frozen 3
                  have c0 := R7.out.c.cell 0 rfl
                  have c1 := R7.out.c.cell 1 rfl
                  have c2 := R7.out.c.cell 2 rfl
                  have c3 := R7.out.c.cell 3 rfl
                  clear k0 k1 k2 k3 L9
                  go_wp2_with fail
                  exact ⟨⟨z - 1, (C : Nat), rfl, by omega, by omega, by omega, by rw [HRN.out, HQE.out]; exact R7.out.set4 hgc q q (C : Nat)⟩, by simp [intOf]; omega⟩
              · obtain rfl : z = -2 := by omega
                go_wp2_with fail
                refine ⟨by simp, .inl ⟨_, _, rfl, run_takeDeferred R.d, ?_⟩⟩
                refine ⟨.bool true, ?_, rfl, R.b.trans (belowK_b (w := w) (Nat.le_refl _) _ D _ _ HQ0.out R.d rfl rfl)⟩
                simp [results, Tryd.f7, go_sem]
      case true =>
        go_loopw [8] (fun i wr => ∃ (k : Nat) (gl : Int), i = .int .i64 (k : Nat) ∧ 1 ≤ k ∧ k ≤ n + 2 ∧ 0 ≤ gl ∧ Roam w cb g2 cap2 n D (bs t) (atN (bs t) (min (k - 1) n)) (0) gl wr) (fun i _ => n + 2 - (intOf i).toNat)
        case atStart => exact ⟨1, 77, rfl, by omega, by omega, by omega, by rw [show min (1 - 1) n = 0 by omega, atN_zero]; exact ROAM⟩
        case round =>
          clear ROAM
          obtain ⟨k, gl, rfl, hk1, hk2, hgl, R⟩ := hrel
          by_cases hkn : k ≤ n + 1
          · obtain ⟨j, hj⟩ : ∃ j, min (k - 1) n = j := ⟨_, rfl⟩
            obtain ⟨m, hm⟩ : ∃ m, min k n = m := ⟨_, rfl⟩
            have hjn : j ≤ n := by omega
            have hmn : m ≤ n := by omega
            have hmj : min (j + 1) n = m := by omega
            have hq := roam_right (bs t) j (by rw [HN.out]; exact hjn) gl
            rw [HN.out, hmj] at hq
            rw [hj] at R
            have hAs := HPB.out j hjn
            have hqs := HPB.out m hmn
            obtain ⟨A, hA⟩ : ∃ A, atN (bs t) j = A := ⟨_, rfl⟩
            rw [hA] at R hq hAs
            obtain ⟨q, hqe⟩ : ∃ q, atN (bs t) m = q := ⟨_, rfl⟩
            have HQE := Lib.hid hqe
            rw [hqe] at hq hqs
            have HM := Lib.hid (fun w hT => HMV.out A (0) gl hAs (Nat.zero_le _) hgl 2 (by decide) (by decide) (by decide) q hq.symm true ((0 : Nat) : Int) (by simp) w hT)
            rw [show ((2 : Nat) : Int) = 2 from rfl] at HM
            have HW := Lib.hid (fun w hT => HWH.out q hqs w hT)
            obtain ⟨C, hC⟩ : ∃ C, colOf (bs t) q = C := ⟨_, rfl⟩
            obtain ⟨L, hL⟩ : ∃ L, lnOf (bs t) q = L := ⟨_, rfl⟩
            rw [hC] at HM HW
            rw [hL] at HW
            have HRN := Lib.hid (show min (k + 1 - 1) n = m by omega)
            have hmin : min (k : Int) (n : Int) = (m : Int) := by omega
            have hki : (k : Int) ≤ (n : Int) + 1 := by omega
            have hm0 : (0 : Int) ≤ (m : Int) := by omega
            have hm1 : (m : Int) < (n : Int) + 1 := by omega
            have a0 := R.c.cell 0 rfl
            have a1 := R.c.cell 1 rfl
            have a2 := R.c.cell 2 rfl
            have a3 := R.c.cell 3 rfl
            have p0 := R.p.cell
            have RH := Lib.hid R
            clear hj hm hmj hq hA hqe hC hL hk2 hkn hjn R
            by_cases hq0 : q = 0
            · subst hq0
              rw [show ((0 : Nat) : Int) = 0 from rfl] at HM HW
              go_wp2_with (first
                | (go_at_call 20; (with_reducible refine (HM.out _ (HT.out.below RH.out.b (Nat.le_refl _))).mono ?_); rintro e w5 ⟨rfl, hb5⟩; have K9 := Lib.hid (Blk.new w5 36 [.int .u32 2, .int .i64 0, .int .i64 0, .int .i64 (C : Nat)]); have R6 := Lib.hid ((RH.out.below hb5).alloc (.cells #[.int .u32 2, .int .i64 0, .int .i64 0, .int .i64 (C : Nat)] 36)); have p6 := R6.out.p.cell; have r6 := R6.out.r m hmn; rw [HQE.out, show ((0 : Nat) : Int) = 0 from rfl] at r6)
                | (go_at_call 25; (with_reducible refine (HW.out _ (HT.out.below R6.out.b (Nat.le_refl _))).mono ?_); rintro e w7 ⟨rfl, hb7⟩; have tS := Two.new w7 45 (.int .i64 (L : Nat)) (.int .i64 (C : Nat)); have R8 := Lib.hid ((R6.out.below hb7).alloc (.cells #[.int .i64 (L : Nat), .int .i64 (C : Nat)] 45)); have K8 := (K9.out.below hb7).alloc (.cells #[.int .i64 (L : Nat), .int .i64 (C : Nat)] 45); have s1 := tS.cell1; have d0 := K8.cell 0 rfl; have d1 := K8.cell 1 rfl; have d2 := K8.cell 2 rfl; have d3 := K8.cell 3 rfl; have f0 := R8.out.c.frozen 0; have f1 := R8.out.c.frozen 1; have f2 := R8.out.c.frozen 2; have f3 := R8.out.c.frozen 3; have c0 := R8.out.c.cell 0 rfl; have c1 := R8.out.c.cell 1 rfl; have c2 := R8.out.c.cell 2 rfl; have c3 := R8.out.c.cell 3 rfl))
              exact ⟨⟨k + 1, (C : Nat), by go_num, by omega, by omega, by omega, by rw [HRN.out, HQE.out]; exact R8.out.set4 hgc 0 0 (C : Nat)⟩, by simp [intOf]; omega⟩
            · have hq1 : ((q : Int) != 0) = true := bne_iff_ne.2 (by omega)
              have hq2 : ((0 : Int) != (q : Int)) = true := bne_iff_ne.2 (by omega)
              rw [show ((0 : Nat) : Int) = 0 from rfl] at HM
              clear hq0
              go_wp2_with (first
                | (go_at_call 20; (with_reducible refine (HM.out _ (HT.out.below RH.out.b (Nat.le_refl _))).mono ?_); rintro e w5 ⟨rfl, hb5⟩; have K9 := Lib.hid (Blk.new w5 36 [.int .u32 2, .int .i64 (q : Nat), .int .i64 0, .int .i64 (C : Nat)]); have R6 := Lib.hid ((RH.out.below hb5).alloc (.cells #[.int .u32 2, .int .i64 (q : Nat), .int .i64 0, .int .i64 (C : Nat)] 36)); have p6 := R6.out.p.cell; have r6 := R6.out.r m hmn; rw [HQE.out] at r6)
                | (go_at_call 25; (with_reducible refine (HW.out _ (HT.out.below R6.out.b (Nat.le_refl _))).mono ?_); rintro e w7 ⟨rfl, hb7⟩; have tS := Two.new w7 45 (.int .i64 (L : Nat)) (.int .i64 (C : Nat)); have R8 := Lib.hid ((R6.out.below hb7).alloc (.cells #[.int .i64 (L : Nat), .int .i64 (C : Nat)] 45)); have K8 := (K9.out.below hb7).alloc (.cells #[.int .i64 (L : Nat), .int .i64 (C : Nat)] 45); have s1 := tS.cell1; have d0 := K8.cell 0 rfl; have d1 := K8.cell 1 rfl; have d2 := K8.cell 2 rfl; have d3 := K8.cell 3 rfl; have f0 := R8.out.c.frozen 0; have f1 := R8.out.c.frozen 1; have f2 := R8.out.c.frozen 2; have f3 := R8.out.c.frozen 3; have c0 := R8.out.c.cell 0 rfl; have c1 := R8.out.c.cell 1 rfl; have c2 := R8.out.c.cell 2 rfl; have c3 := R8.out.c.cell 3 rfl))
              exact ⟨⟨k + 1, (C : Nat), by go_num, by omega, by omega, by omega, by rw [HRN.out, HQE.out]; exact R8.out.set4 hgc q 0 (C : Nat)⟩, by simp [intOf]; omega⟩
          · obtain rfl : k = n + 2 := by omega
            have p0 := R.p.cell
            rw [show min (n + 2 - 1) n = n by omega] at R
            have hkd : decide ((n : Int) + 2 ≤ (n : Int) + 1) = false := decide_eq_false (by omega)
            rw [show ((n + 2 : Nat) : Int) = (n : Int) + 2 from rfl]
            have RH := Lib.hid R
            clear R hkn hk1 hk2
            obtain ⟨W9, hW9⟩ : ∃ W, wr = W := ⟨_, rfl⟩
            rw [hW9] at RH p0 ⊢
            clear hW9
            go_wp2_with fail
            clear hkd p0
            go_loopw [14] (fun i wr => ∃ (z gl : Int), i = .int .i64 z ∧ -2 ≤ z ∧ z ≤ (n : Int) - 1 ∧ 0 ≤ gl ∧ Roam w cb g2 cap2 n D (bs t) (atN (bs t) (max (z + 1) 0).toNat) (0) gl wr) (fun i _ => (intOf i + 2).toNat)
            case atStart =>
              refine ⟨(n : Int) - 1, gl, ?_, by omega, by omega, hgl, ?_⟩
              · first
                  | rfl
                  | (congr 1; omega)
              · rw [show (max ((n : Int) - 1 + 1) 0).toNat = n by omega]
                exact RH.out
            case round =>
              clear RH
              clear hgl gl
              obtain ⟨z, gl, rfl, hz1', hz2', hgl, R⟩ := hrel
              by_cases hzz : -1 ≤ z
              · obtain ⟨j, hj⟩ : ∃ j, (max (z + 1) 0).toNat = j := ⟨_, rfl⟩
                obtain ⟨m, hm⟩ : ∃ m, (max z 0).toNat = m := ⟨_, rfl⟩
                have hjn : j ≤ n := by omega
                have hmn : m ≤ n := by omega
                have hmj : j - 1 = m := by omega
                have hq := roam_left (bs t) j (by rw [HN.out]; exact hjn) gl
                rw [hmj] at hq
                rw [hj] at R
                have hAs := HPB.out j hjn
                have hqs := HPB.out m hmn
                obtain ⟨A, hA⟩ : ∃ A, atN (bs t) j = A := ⟨_, rfl⟩
                rw [hA] at R hq hAs
                obtain ⟨q, hqe⟩ : ∃ q, atN (bs t) m = q := ⟨_, rfl⟩
                have HQE := Lib.hid hqe
                rw [hqe] at hq hqs
                have HM := Lib.hid (fun w hT => HMV.out A (0) gl hAs (Nat.zero_le _) hgl 1 (by decide) (by decide) (by decide) q hq.symm true ((0 : Nat) : Int) (by simp) w hT)
                rw [show ((1 : Nat) : Int) = 1 from rfl] at HM
                obtain ⟨C, hC⟩ : ∃ C, colOf (bs t) q = C := ⟨_, rfl⟩
                rw [hC] at HM
                have HRN := Lib.hid (show (max (z - 1 + 1) 0).toNat = m by omega)
                have hmax : max z 0 = (m : Int) := by omega
                have hm0 : (0 : Int) ≤ (m : Int) := by omega
                have hm1 : (m : Int) < (n : Int) + 1 := by omega
                have hm2 : m < n + 1 := by omega
                have a0 := R.c.cell 0 rfl
                have a1 := R.c.cell 1 rfl
                have a2 := R.c.cell 2 rfl
                have a3 := R.c.cell 3 rfl
                have RH := Lib.hid R
                clear hj hm hmj hq hA hqe hC hjn R
                by_cases hq0 : q = 0
                · subst hq0
                  rw [show ((0 : Nat) : Int) = 0 from rfl] at HM
                  go_wp2_with (first
                    | (go_at_call 20; (with_reducible refine (HM.out _ (HT.out.below RH.out.b (Nat.le_refl _))).mono ?_); rintro e w5 ⟨rfl, hb5⟩; have K9 := Blk.new w5 36 [.int .u32 2, .int .i64 0, .int .i64 0, .int .i64 (C : Nat)]; have R6 := Lib.hid ((RH.out.below hb5).alloc (.cells #[.int .u32 2, .int .i64 0, .int .i64 0, .int .i64 (C : Nat)] 36)); have p6 := R6.out.p.cell; have r6 := R6.out.r m hmn; rw [HQE.out, show ((0 : Nat) : Int) = 0 from rfl] at r6; have d0 := K9.cell 0 rfl; have d1 := K9.cell 1 rfl; have d2 := K9.cell 2 rfl; have d3 := K9.cell 3 rfl))
                  have k0 := Later.cell p6
                  have k1 := Later.cell r6
                  have k2 := Later.cell d1
                  have k3 := Later.cell d2
                  have K9H := Lib.hid K9
                  clear p6 r6 d0 d1 d2 d3 K9
                  refine wp_region_later (by kernel_rfl) (by kernel_rfl) ?_
                  repeat (go_big_quiet_step (fail))
                  refine wpQuiet_nil ?_
                  intro _ hw'
                  obtain ⟨pq, hw''⟩ := hw'
                  subst hw''
                  have R7 := Lib.hid (R6.out.below pq.hb)
                  have L9 := K9H.out.below pq.hb
                  have d0 := L9.cell 0 rfl
                  have d1 := L9.cell 1 rfl
                  have d2 := L9.cell 2 rfl
                  have d3 := L9.cell 3 rfl
                  have f0 := R7.out.c.frozen 0
                  have f1 := R7.out.c.frozen 1
                  have f2 := R7.out.c.frozen 2
                  have f3 := R7.out.c.frozen 3
                  have c0 := R7.out.c.cell 0 rfl
                  have c1 := R7.out.c.cell 1 rfl
                  have c2 := R7.out.c.cell 2 rfl
                  have c3 := R7.out.c.cell 3 rfl
                  clear k0 k1 k2 k3 L9
                  go_wp2_with fail
                  exact ⟨⟨z - 1, (C : Nat), rfl, by omega, by omega, by omega, by rw [HRN.out, HQE.out]; exact R7.out.set4 hgc 0 0 (C : Nat)⟩, by simp [intOf]; omega⟩
                · have hq1 : ((q : Int) != 0) = true := bne_iff_ne.2 (by omega)
                  have hq2 : ((0 : Int) != (q : Int)) = true := bne_iff_ne.2 (by omega)
                  rw [show ((0 : Nat) : Int) = 0 from rfl] at HM
                  clear hq0
                  go_wp2_with (first
                    | (go_at_call 20; (with_reducible refine (HM.out _ (HT.out.below RH.out.b (Nat.le_refl _))).mono ?_); rintro e w5 ⟨rfl, hb5⟩; have K9 := Blk.new w5 36 [.int .u32 2, .int .i64 (q : Nat), .int .i64 0, .int .i64 (C : Nat)]; have R6 := Lib.hid ((RH.out.below hb5).alloc (.cells #[.int .u32 2, .int .i64 (q : Nat), .int .i64 0, .int .i64 (C : Nat)] 36)); have p6 := R6.out.p.cell; have r6 := R6.out.r m hmn; rw [HQE.out] at r6; have d0 := K9.cell 0 rfl; have d1 := K9.cell 1 rfl; have d2 := K9.cell 2 rfl; have d3 := K9.cell 3 rfl))
                  have k0 := Later.cell p6
                  have k1 := Later.cell r6
                  have k2 := Later.cell d1
                  have k3 := Later.cell d2
                  have K9H := Lib.hid K9
                  clear p6 r6 d0 d1 d2 d3 K9
                  refine wp_region_later (by kernel_rfl) (by kernel_rfl) ?_
                  repeat (go_big_quiet_step (fail))
                  refine wpQuiet_nil ?_
                  intro _ hw'
                  obtain ⟨pq, hw''⟩ := hw'
                  subst hw''
                  have R7 := Lib.hid (R6.out.below pq.hb)
                  have L9 := K9H.out.below pq.hb
                  have d0 := L9.cell 0 rfl
                  have d1 := L9.cell 1 rfl
                  have d2 := L9.cell 2 rfl
                  have d3 := L9.cell 3 rfl
                  have f0 := R7.out.c.frozen 0
                  have f1 := R7.out.c.frozen 1
                  have f2 := R7.out.c.frozen 2
                  have f3 := R7.out.c.frozen 3
                  have c0 := R7.out.c.cell 0 rfl
                  have c1 := R7.out.c.cell 1 rfl
                  have c2 := R7.out.c.cell 2 rfl
                  have c3 := R7.out.c.cell 3 rfl
                  clear k0 k1 k2 k3 L9
                  go_wp2_with fail
                  exact ⟨⟨z - 1, (C : Nat), rfl, by omega, by omega, by omega, by rw [HRN.out, HQE.out]; exact R7.out.set4 hgc q 0 (C : Nat)⟩, by simp [intOf]; omega⟩
              · obtain rfl : z = -2 := by omega
                go_wp2_with fail
                refine ⟨by simp, .inl ⟨_, _, rfl, run_takeDeferred R.d, ?_⟩⟩
                refine ⟨.bool true, ?_, rfl, R.b.trans (belowK_b (w := w) (Nat.le_refl _) _ D _ _ HQ0.out R.d rfl rfl)⟩
                simp [results, Tryd.f7, go_sem]
end Go.Proofs.YtfoppbignompkaaDoor
