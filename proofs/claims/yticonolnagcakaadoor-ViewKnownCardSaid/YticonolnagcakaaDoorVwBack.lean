/-
  There and back: the walk of the statement ViewBack.
-/
import Derived.Test.YticonolnagcakaaDoorVwB
namespace Go.Proofs.YticonolnagcakaaDoor
open Go.RowKit

set_option maxRecDepth 100000 in
set_option maxHeartbeats 8000000 in
theorem viewBack_any (s : ByteArray) (hs : s.size ≤ 1048576) (W T : Int) (w : World) (hT : Tabs w) :
    Calls Tryd.prog 5 #[.string s, .agg #[.int .i64 W, .int .i64 T]] w fun e w' => e = .returned (.bool true) ∧ Below w.heap.size w w' := by
  have HT := Lib.hid hT
  clear hT
  have HR := Lib.hid (fun w => lright_any W T w)
  have HW := Lib.hid (fun w hT => vworks_any w hT)
  have hle : countN (bs s) ≤ s.size := by rw [size_bs]; exact countN_le _
  have HC := Lib.hid (fun w => count_any s (by omega) w)
  have HRO := Lib.hid (fun W T hW hW2 hT1 hT2 w hT => vrows_at W T hW hW2 hT1 hT2 s (by omega) w hT)
  have HWI := Lib.hid (fun W T hg c hc w hT => vwhere_in (W := W) (T := T) hg s (by omega) c hc w hT)
  have HWX := Lib.hid (fun W T hg c hc w hT => vwhere_out (W := W) (T := T) hg s (by omega) c hc w hT)
  have HPI := Lib.hid (fun W T hg c hc => vplace_in (W := W) (T := T) hg s (by omega) c hc)
  have HPX := Lib.hid (fun W T hg m hm w hT => vplace_out (W := W) (T := T) hg s (by omega) m hm w hT)
  obtain ⟨l, hl⟩ : ∃ l, bs s = l := ⟨_, rfl⟩
  rw [hl] at hle HC HRO HWI HWX HPI HPX
  obtain ⟨N, hN⟩ : ∃ N, countN l = N := ⟨_, rfl⟩
  rw [hN] at hle HC HRO HWI HWX HPI HPX
  have HN := Lib.hid hN
  clear hl hN
  go_enter Tryd.func5, Tryd.ntmps5
  go_upto_region 1 with fail
  go_name_world X hX
  have hR0 : Blk X w.heap.size 23 [.int .i64 W, .int .i64 T] := by rw [← hX]; exact Blk.new w _ _
  have hb0 : Below w.heap.size w X := by rw [← hX]; exact al (Below.refl _ _) _
  clear hX
  have v0 := hR0.cell 0 rfl
  have v1 := hR0.cell 1 rfl
  go_upto_region 2 with (first | (go_at_call 21; (with_reducible refine (HR.out _).mono ?_); rintro e w2 ⟨W', hW1, hW2, T', hT1, hT2, rfl, hb2⟩; have hR2 := hR0.below hb2; have v0 := hR2.cell 0 rfl; have v1 := hR2.cell 1 rfl; have f0 := hR2.frozen 0; have f1 := hR2.frozen 1))
  go_name_world X2 hX2
  obtain ⟨hV, hg2⟩ := stored2 hR2 hX2
  simp only [List.set_cons_zero, List.set_cons_succ] at hV
  have hbV : Below w.heap.size w X2 := (nx hb0 hb2).grown hg2 (nx hb0 hb2).size (fun q e => by injection e with e; omega)
  clear hX2 hg2 hR2 hR0 hb2 hb0 v0 v1 f0 f1
  have v0 := hV.cell 0 rfl
  have v1 := hV.cell 1 rfl
  have hg := goodV_nat hW1 hW2 hT1 hT2
  have hrows := HRO.out W' T' hW1 hW2 hT1 hT2 X2 (HT.out.below hbV (Nat.le_refl _))
  have HWC := Lib.hid (HWI.out W' T' hg)
  have HWO := Lib.hid (HWX.out W' T' hg)
  have HPB := Lib.hid (HPI.out W' T' hg)
  have HPO := HPX.out W' T' hg
  have HROW := Lib.hid (fun (c : Nat) (hc : c ≤ N) => row_of W' T' l c (by rw [HN.out]; exact hc))
  have HWAS := Lib.hid (fun (c : Nat) (hc : c ≤ N) => was_next W' T' l c (by rw [HN.out]; exact hc))
  have HLTR := Lib.hid (fun (c : Nat) (hc : c ≤ N) => at_lt_rows W' T' l c (by rw [HN.out]; exact hc))
  rw [HN.out] at HROW HLTR
  obtain ⟨m, hm⟩ : ∃ m, (rowsV W' T' l N).1.length = m := ⟨_, rfl⟩
  have hmN : m ≤ N := by rw [← hm, rows_len]; exact st_row W' T' (tk l) N
  have HPO := Lib.hid (HPO m hm)
  rw [hm] at hrows HLTR
  have HRR := Lib.hid hrows
  have HLR := Lib.hid (show (rowsL W' T' l N).length = m + 1 by unfold rowsL; rw [List.length_append, List.length_singleton, hm])
  clear hrows HRO HWI HWX HPI HPX hm HR
  go_upto_region 5 with (first | (go_at_call 9; (with_reducible refine HRR.out.mono ?_); rintro e w3 ⟨G, cap, rfl, hrow, hG1, hG2, hb3⟩))
  have hm0 : (m : Int) + 1 ≠ 0 := by omega
  go_upto_region 7 with (first | (go_at_call 22; (with_reducible refine (HC.out _).mono ?_); rintro e w4 ⟨rfl, hb4⟩))
  go_name_world Y hY
  have hYw : Blk Y w4.heap.size 42 [.int .i64 0, .int .i64 0] := by rw [← hY]; exact Blk.new w4 _ _
  have hb24 := nx hb3 hb4
  have hVY : Blk Y w.heap.size 23 [.int .i64 (W' : Nat), .int .i64 (T' : Nat)] := by rw [← hY]; exact (hV.below hb24).alloc _
  have hrY : RowAt Y G 5 (m + 1) (rowFn (rowsL W' T' l N)) := by rw [← hY]; exact (hrow.below (rowFn_len _) hb4).below (rowFn_len _) (al (Below.refl _ _) _)
  have hbY : Below w.heap.size w Y := by rw [← hY]; exact al (nx hbV hb24) _
  have hGw : G < w4.heap.size := by have := hb4.size; omega
  have hww : w.heap.size < w4.heap.size := by have := hV.lt; have := hb24.size; omega
  have hYs : w4.heap.size < Y.heap.size := hYw.lt
  obtain ⟨Bw, hBw⟩ : ∃ Bw, w4.heap.size = Bw := ⟨_, rfl⟩
  rw [hBw] at hYw hGw hww hYs ⊢
  clear hY hBw hV hrow hb3 hb4 hb24 hG1 hG2 hbV v0 v1
  have HVY := Lib.hid hVY
  have HRY := Lib.hid hrY
  clear hVY hrY
  go_wp2_with fail
  go_loopw [9] (fun c wr => ∃ k : Nat, c = .int .i64 (k : Nat) ∧ k ≤ N + 1 ∧ Blk wr Bw 42 [.int .i64 ((wasV W' T' l k).1 : Nat), .int .i64 ((wasV W' T' l k).2 : Nat)] ∧ Below Bw Y wr) (fun c _ => N + 1 - (intOf c).toNat)
  case atStart => exact ⟨0, rfl, Nat.zero_le _, hYw, Below.refl _ _⟩
  case round =>
    clear hYw
    obtain ⟨k, rfl, hk, hwas, hb⟩ := hrel
    have hws := hwas.lt
    go_upto_region 8 with fail
    go_cut [57] from 40 to 57 (fun b wx => wr = wx ∧ ∃ bb, b = .bool bb ∧ (bb = true → k ≤ N))
    case first =>
      by_cases h1 : k ≤ N
      · by_cases h2 : (k : Int) < 300
        · have hmul : (k : Int) * (s.size : Int) ≤ 314572800 := by
            have : k * s.size ≤ 300 * 1048576 := Nat.mul_le_mul (by omega) hs
            have e : ((k * s.size : Nat) : Int) = (k : Int) * (s.size : Int) := Int.natCast_mul _ _
            omega
          have hmul0 : 0 ≤ (k : Int) * (s.size : Int) := Int.mul_nonneg (by omega) (by omega)
          go_wp2_with fail
          all_goals (go_meet; exact ⟨rfl, _, rfl, fun _ => h1⟩)
        · go_wp2_with fail
          all_goals (go_meet; exact ⟨rfl, _, rfl, fun _ => h1⟩)
      · have h1' : (N : Int) < (k : Int) := by omega
        go_wp2_with fail
        all_goals (go_meet; exact ⟨rfl, _, rfl, fun h => (by first | (simp at h) | omega)⟩)
    case rest =>
      obtain ⟨rfl, bb, rfl, hbb⟩ := hcut
      cases bb
      · have hbW : Below w.heap.size w wr := hbY.trans (hb.mono (by omega))
        have hVr := HVY.out.below' hb hww
        have v0 := hVr.cell 0 rfl
        have v1 := hVr.cell 1 rfl
        go_wp2_with (first
          | (go_at_call 17; (with_reducible refine (HWO.out _ (Int.lt_succ _) _ (HT.out.below hbW (Nat.le_refl _))).mono ?_); rintro e w5 ⟨rfl, hb5⟩; have hb15 := nx hbW hb5; have hV5 := hVr.below hb5; have x0 := hV5.cell 0 rfl; have x1 := hV5.cell 1 rfl)
          | (go_at_call 19; (with_reducible refine (HPO.out _ (HT.out.below hb15 (Nat.le_refl _))).mono ?_); rintro e w6 ⟨rfl, hb6⟩; have hb16 := nx hb15 hb6)
          | (go_at_call 16; (with_reducible refine (HW.out _ (HT.out.below hb16 (Nat.le_refl _))).mono ?_); rintro e w7 ⟨rfl, hb7⟩; have hb17 := nx hb16 hb7))
        go_ret
        exact ⟨rfl, hb17⟩
      · have hkN : k ≤ N := hbb rfl
        have hbW : Below w.heap.size w wr := hbY.trans (hb.mono (by omega))
        have hVr := HVY.out.below' hb hww
        have hWC := HWC.out k hkN
        obtain ⟨i, hi1, hi2, hi3, hpl⟩ := HPB.out k hkN
        have hWI := HWC.out i hi2
        rw [hi3] at hWI
        have hwas1 := HWAS.out k hkN
        have hltr := HLTR.out k hkN
        obtain ⟨r, hr1, hr2, hr3, hr4, hr5, hr6⟩ := HROW.out k hkN
        have hwn : wasV W' T' l (k + 1) = atV W' T' l k := by unfold wasV; rw [if_neg (Nat.succ_ne_zero k)]; rfl
        obtain ⟨⟨al0, ac0⟩, hat⟩ : ∃ x, atV W' T' l k = x := ⟨_, rfl⟩
        obtain ⟨⟨pl, pc⟩, hpw⟩ : ∃ x, wasV W' T' l k = x := ⟨_, rfl⟩
        rw [hat] at hWC hpl hWI hwas1 hltr hr1 hr5 hr6 hwn
        rw [hpw] at hwas hwas1
        simp only at hWC hpl hWI hwas1 hltr hr1 hr5 hr6 hwas
        have HWN := Lib.hid hwn
        have H1 := Lib.hid hWC
        have H2 := Lib.hid hpl
        have H3 := Lib.hid hWI
        have hrow5 : ∀ j, j < 5 → wr.cell? ⟨G, al0 * 5 + j, none⟩ = (rowC r)[j]? := by
          intro j hj
          have h := (HRY.out.under hb hGw) al0 j hltr hj
          rw [h]
          show (rowC ((rowsL W' T' l N)[al0]?.getD rowZ))[j]? = _
          rw [hr1]
          rfl
        obtain ⟨fr, tx, pf, pt, rc⟩ := r
        simp only at hr2 hr3 hr4 hr5 hr6
        have d0 : wr.cell? ⟨G, al0 * 5, none⟩ = some (.int .i64 (fr : Nat)) := hrow5 0 (by omega)
        have d1 : wr.cell? ⟨G, al0 * 5 + 1, none⟩ = some (.int .i64 (tx : Nat)) := hrow5 1 (by omega)
        have d2 : wr.cell? ⟨G, al0 * 5 + 2, none⟩ = some (.int .i64 (pf : Nat)) := hrow5 2 (by omega)
        have d3 : wr.cell? ⟨G, al0 * 5 + 3, none⟩ = some (.int .i64 (pt : Nat)) := hrow5 3 (by omega)
        have d4 : wr.cell? ⟨G, al0 * 5 + 4, none⟩ = some (.int .i64 (rc : Nat)) := hrow5 4 (by omega)
        have v0 := hVr.cell 0 rfl
        have v1 := hVr.cell 1 rfl
        clear hWC hpl hWI hat hpw hwn hrow5 hr1 hi3 hbb
        go_upto_region 11 with (first
          | (go_at_call 17; (with_reducible refine (H1.out _ (HT.out.below hbW (Nat.le_refl _))).mono ?_); rintro e w5 ⟨rfl, hb5⟩))
        go_name_world Z hZ
        have hP : Blk Z w5.heap.size 42 [.int .i64 (al0 : Nat), .int .i64 (ac0 : Nat)] := by rw [← hZ]; exact Blk.new w5 _ _
        have hbZ : Below wr.heap.size wr Z := by rw [← hZ]; exact al hb5 _
        obtain ⟨Bp, hBp⟩ : ∃ Bp, w5.heap.size = Bp := ⟨_, rfl⟩
        have hBpl : Bw < Bp := by have := hb5.size; omega
        rw [hBp] at hP ⊢
        clear hZ hBp hb5 v0 v1
        have hWZ := hwas.below hbZ
        have p0 := hP.cell 0 rfl
        have p1 := hP.cell 1 rfl
        have q0 := hWZ.cell 0 rfl
        have q1 := hWZ.cell 1 rfl
        have HD := Lib.hid (And.intro d0 (And.intro d1 (And.intro d2 (And.intro d3 d4))))
        have HHR := Lib.hid (And.intro hr2 (And.intro hr3 (And.intro hr4 (And.intro hr5 hr6))))
        clear d0 d1 d2 d3 d4 hr2 hr3 hr4 hr5 hr6
        have hplk : pl ≤ 1048576 ∨ True := .inr trivial
        go_cut [107] from 70 to 107 (fun b wx => Z = wx ∧ b = .bool false)
        case first =>
          rcases hwas1 with ⟨rfl, hpc⟩ | rfl
          · go_wp2_with fail
            all_goals (go_meet; exact ⟨rfl, congrArg Value.bool (by first | with_reducible rfl | exact decide_eq_false (by omega) | (simp only [Bool.or_eq_false_iff, decide_eq_false_iff_not]; omega))⟩)
          · go_wp2_with fail
            all_goals (go_meet; exact ⟨rfl, congrArg Value.bool (by first | with_reducible rfl | exact decide_eq_false (by omega) | (simp only [Bool.or_eq_false_iff, decide_eq_false_iff_not]; omega))⟩)
        case rest =>
          obtain ⟨rfl, rfl⟩ := hcut
          have z0 := hWZ.frozen 0
          have z1 := hWZ.frozen 1
          go_upto_region 14 with fail
          go_name_world Z2 hZ2
          obtain ⟨hW2', hgw⟩ := stored2 hWZ hZ2
          simp only [List.set_cons_zero, List.set_cons_succ] at hW2'
          have hP2 := hP.kept hgw (by simp; omega)
          have hf2 : Below Bw wr Z2 := (hbZ.mono (by omega)).trans ⟨hgw.os, hgw.tape, hgw.output, hgw.size, fun q hq => hgw.block q (by have := hbZ.size; omega) (by simp; omega)⟩
          clear hZ2 hgw hP hWZ hbZ p0 p1 q0 q1 z0 z1 hwas1 hplk
          have keep : ∀ {j v}, wr.cell? ⟨G, j, none⟩ = some v → Z2.cell? ⟨G, j, none⟩ = some v := fun h => (hf2.cell (p := ⟨G, _, none⟩) hGw).trans h
          have d0 := keep HD.out.1
          have d1 := keep HD.out.2.1
          have d2 := keep HD.out.2.2.1
          have d3 := keep HD.out.2.2.2.1
          have d4 := keep HD.out.2.2.2.2
          have p0 := hP2.cell 0 rfl
          have p1 := hP2.cell 1 rfl
          clear keep
          go_upto_region 15 with fail
          go_name_world Z3 hZ3
          have hRow : Blk Z3 Z2.heap.size 32 [.int .i64 (fr : Nat), .int .i64 (tx : Nat), .int .i64 (pf : Nat), .int .i64 (pt : Nat), .int .i64 (rc : Nat)] := by rw [← hZ3]; exact Blk.new Z2 _ _
          have hP3 : Blk Z3 Bp 42 [.int .i64 (al0 : Nat), .int .i64 (ac0 : Nat)] := by rw [← hZ3]; exact hP2.alloc _
          have hW3 : Blk Z3 Bw 42 [.int .i64 (al0 : Nat), .int .i64 (ac0 : Nat)] := by rw [← hZ3]; exact hW2'.alloc _
          have hf3 : Below Bw wr Z3 := by rw [← hZ3]; exact hf2.alloc (Nat.le_of_lt hW2'.lt) _
          obtain ⟨Br, hBr⟩ : ∃ Br, Z2.heap.size = Br := ⟨_, rfl⟩
          rw [hBr] at hRow ⊢
          clear hZ3 hBr hP2 hW2' hf2 d0 d1 d2 d3 d4 p0 p1
          have p0 := hP3.cell 0 rfl
          have p1 := hP3.cell 1 rfl
          have r0 := hRow.cell 0 rfl
          have r1 := hRow.cell 1 rfl
          have r3 := hRow.cell 3 rfl
          have r4 := hRow.cell 4 rfl
          obtain ⟨hr2, hr3, hr4, hr5, hr6⟩ := HHR.out
          go_cut [152] from 114 to 152 (fun b wx => Z3 = wx ∧ b = .bool false)
          case first =>
            by_cases hkt : k = tx
            · have hkN2 := hr4 hkt
              subst hkt
              subst hkN2
              by_cases hkf : k = fr
              · have ha0 := hr6 hkf
                subst hkf
                subst ha0
                go_wp2_with fail
                all_goals (go_meet; exact ⟨rfl, congrArg Value.bool (by first | with_reducible rfl | exact decide_eq_false (by omega) | (simp only [Bool.or_eq_false_iff, decide_eq_false_iff_not]; omega))⟩)
              · have hkd : ((k : Int) == (fr : Int)) = false := beq_eq_false_iff_ne.2 (by omega)
                go_wp2_with fail
                all_goals (go_meet; exact ⟨rfl, congrArg Value.bool (by first | with_reducible rfl | exact decide_eq_false (by omega) | (simp only [Bool.or_eq_false_iff, decide_eq_false_iff_not]; omega))⟩)
            · have hktd : ((k : Int) == (tx : Int)) = false := beq_eq_false_iff_ne.2 (by omega)
              by_cases hkf : k = fr
              · have ha0 := hr6 hkf
                subst hkf
                subst ha0
                go_wp2_with fail
                all_goals (go_meet; exact ⟨rfl, congrArg Value.bool (by first | with_reducible rfl | exact decide_eq_false (by omega) | (simp only [Bool.or_eq_false_iff, decide_eq_false_iff_not]; omega))⟩)
              · have hkd : ((k : Int) == (fr : Int)) = false := beq_eq_false_iff_ne.2 (by omega)
                go_wp2_with fail
                all_goals (go_meet; exact ⟨rfl, congrArg Value.bool (by first | with_reducible rfl | exact decide_eq_false (by omega) | (simp only [Bool.or_eq_false_iff, decide_eq_false_iff_not]; omega))⟩)
          case rest =>
            obtain ⟨rfl, rfl⟩ := hcut
            clear hr2 hr3 hr4 hr5 hr6 HHR HD hRow r0 r1 r3 r4
            have hVz := HVY.out.below' (hb.trans hf3) hww
            have v0 := hVz.cell 0 rfl
            have v1 := hVz.cell 1 rfl
            have hbW3 : Below w.heap.size w Z3 := hbW.trans (hf3.mono (by omega))
            have g1 := guard_spot
            have e1 := fun w => eq_spot (al0 : Nat) (ac0 : Nat) (al0 : Nat) (ac0 : Nat) w
            have hz3 := hP3.lt
            have hik : (k : Int) ≤ (i : Int) := by omega
            go_upto_region 19 with (first
              | (go_at_call 19; (with_reducible refine (H2.out _ (HT.out.below hbW3 (Nat.le_refl _))).mono ?_); rintro e w6 ⟨rfl, hb6⟩; have hb36 := nx hbW3 hb6; have hV6 := hVz.below hb6; have x0 := hV6.cell 0 rfl; have x1 := hV6.cell 1 rfl)
              | (go_at_call 17; (with_reducible refine (H3.out _ (HT.out.below hb36 (Nat.le_refl _))).mono ?_); rintro e w7 ⟨rfl, hb7⟩))
            go_name_world Z4 hZ4
            have hQ : Blk Z4 w7.heap.size 42 [.int .i64 (al0 : Nat), .int .i64 (ac0 : Nat)] := by rw [← hZ4]; exact Blk.new w7 _ _
            have hP4 : Blk Z4 Bp 42 [.int .i64 (al0 : Nat), .int .i64 (ac0 : Nat)] := by rw [← hZ4]; exact ((hP3.below hb6).below hb7).alloc _
            have hW4 : Blk Z4 Bw 42 [.int .i64 (al0 : Nat), .int .i64 (ac0 : Nat)] := by rw [← hZ4]; exact ((hW3.below hb6).below hb7).alloc _
            have hf4 : Below Bw wr Z4 := by rw [← hZ4]; exact hf3.trans ((al (nx hb6 hb7) _).mono (Nat.le_of_lt hW3.lt))
            obtain ⟨Bq, hBq⟩ : ∃ Bq, w7.heap.size = Bq := ⟨_, rfl⟩
            rw [hBq] at hQ ⊢
            clear hZ4 hBq
            have q0 := hQ.cell 0 rfl
            have q1 := hQ.cell 1 rfl
            have p0 := hP4.cell 0 rfl
            have p1 := hP4.cell 1 rfl
            go_wp2_with fail
            refine ⟨⟨k + 1, by go_num, by omega, ?_, hb.trans hf4⟩, by simp [intOf]; omega⟩
            rw [HWN.out]
            exact hW4
end Go.Proofs.YticonolnagcakaaDoor
