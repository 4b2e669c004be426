/-
  Nothing is lost: the walk of the statement ViewWhole.
-/
import Derived.Test.YticonolnagcakaaDoorVwB
import Derived.Test.YticonolnagcakaaDoorVwC
import Derived.Test.YticonolnagcakaaDoorVwA
namespace Go.Proofs.YticonolnagcakaaDoor
open Go.RowKit

set_option maxRecDepth 100000 in
set_option maxHeartbeats 8000000 in
theorem viewWhole_any (s : ByteArray) (hs : s.size ≤ 1048576) (W T : Int) (w : World) (hT : Tabs w) :
    Calls Tryd.prog 6 #[.string s, .agg #[.int .i64 W, .int .i64 T]] w fun e w' => e = .returned (.bool true) ∧ Below w.heap.size w w' := by
  have HT := Lib.hid hT
  clear hT
  have HR := Lib.hid (fun w => lright_any W T w)
  have HW := Lib.hid (fun w hT => vworks_any w hT)
  have hle : countN (bs s) ≤ s.size := by rw [size_bs]; exact countN_le _
  have HC := Lib.hid (fun w => count_any s (by omega) w)
  have HCE := Lib.hid (fun a b w => count_any (s.extract a b) (by rw [size_bs, bs_extract, List.length_take, List.length_drop, ← size_bs]; omega) w)
  have HRO := Lib.hid (fun W T hW hW2 hT1 hT2 w hT => vrows_at W T hW hW2 hT1 hT2 s (by omega) w hT)
  have HCO := Lib.hid (fun t w => columns_any s (by omega) 0 t w)
  have hnil : s.size = 0 ↔ countN (bs s) = 0 := by
    rw [size_bs]
    constructor
    · intro h; have := countN_le (bs s); omega
    · intro h; have := atN_full (bs s); rw [h, atN_zero] at this; exact this.symm
  obtain ⟨l, hl⟩ : ∃ l, bs s = l := ⟨_, rfl⟩
  have HL := Lib.hid hl
  have HLEN := Lib.hid (show l.length = s.size by rw [← hl, size_bs])
  rw [hl] at hle HC HRO HCO hnil
  have HROWS := Lib.hid (fun W T hW i hi => whole_row W T hW l i hi)
  have HNXT := Lib.hid (fun W T hW i hi => whole_next W T hW l i hi)
  have HONE := Lib.hid (fun W T hT hT2 h => whole_one W T hT hT2 l h)
  have HSEG := Lib.hid (fun a b hab hb => seg_count l a b hab hb)
  have HATL := Lib.hid (atN_full l)
  obtain ⟨N, hN⟩ : ∃ N, countN l = N := ⟨_, rfl⟩
  rw [hN] at hle HC HRO HROWS HNXT HONE HSEG hnil HATL
  have HN := Lib.hid hN
  have HNIL := Lib.hid hnil
  clear hl hN hnil
  go_enter Tryd.func6, Tryd.ntmps6
  go_upto_region 1 with fail
  go_name_world X hX
  have hR0 : Blk X w.heap.size 23 [.int .i64 W, .int .i64 T] := by rw [← hX]; exact Blk.new w _ _
  have hb0 : Below w.heap.size w X := by rw [← hX]; exact al (Below.refl _ _) _
  clear hX
  have v0 := hR0.cell 0 rfl
  have v1 := hR0.cell 1 rfl
  go_upto_region 2 with (first | (go_at_call 21; (with_reducible refine (HR.out _).mono ?_); rintro e w2 ⟨W', hW1, hW2, T', hT1, hT2, rfl, hb2⟩; have hR2 := hR0.below hb2; have v0 := hR2.cell 0 rfl; have v1 := hR2.cell 1 rfl; have f0 := hR2.frozen 0; have f1 := hR2.frozen 1))
  go_name_world X2 hX2
  obtain ⟨hV, hg2⟩ := stored2 hR2 hX2
  simp only [List.set_cons_zero, List.set_cons_succ] at hV
  have hbV : Below w.heap.size w X2 := (nx hb0 hb2).grown hg2 (nx hb0 hb2).size (fun q e => by injection e with e; omega)
  clear hX2 hg2 hR2 hR0 hb2 hb0 v0 v1 f0 f1
  have v0 := hV.cell 0 rfl
  have v1 := hV.cell 1 rfl
  have hrows := HRO.out W' T' hW1 hW2 hT1 hT2 X2 (HT.out.below hbV (Nat.le_refl _))
  have HRW := HROWS.out W' T' hW1
  have HNX := HNXT.out W' T' hW1
  have HON := HONE.out W' T' hT1 hT2
  obtain ⟨m, hm⟩ : ∃ m, (rowsV W' T' l N).1.length = m := ⟨_, rfl⟩
  have hmN : m ≤ N := by rw [← hm, rows_len]; exact st_row W' T' (tk l) N
  rw [hm] at hrows HRW HNX HON
  obtain ⟨L, hL⟩ : ∃ L, rowsL W' T' l N = L := ⟨_, rfl⟩
  rw [hL] at hrows HRW HNX
  have HRR := Lib.hid hrows
  have HRW := Lib.hid HRW
  have HNX := Lib.hid HNX
  have HON := Lib.hid HON
  clear hrows HRO HROWS HNXT HONE hm hL HR
  go_upto_region 3 with (first | (go_at_call 9; (with_reducible refine HRR.out.mono ?_); rintro e w3 ⟨G, cap, rfl, hrow, hG1, hG2, hb3⟩))
  go_name_world Y hY
  obtain rfl : w3 = Y := hY
  have hVY := hV.below hb3
  have hbY : Below w.heap.size w w3 := nx hbV hb3
  have hGw : w.heap.size < G := by have := hV.lt; omega
  clear hV hbV hb3 hG1 v0 v1
  obtain ⟨⟨fr0, tx0, pf0, pt0, rc0⟩, h0, a1, a2, -, -, -, -, a3, -⟩ := HRW.out 0 (by omega)
  obtain ⟨⟨frm, txm, pfm, ptm, rcm⟩, hm, b1, b2, -, -, -, -, -, b3⟩ := HRW.out m (by omega)
  simp only at a1 a2 a3 b1 b2 b3
  have a3 := a3 trivial
  have b3 := b3 trivial
  rw [a3, atN_zero] at a1
  rw [b3, HATL.out, HLEN.out] at b2
  have b4 := b3.symm
  clear b3
  subst a3 a1 b4 b2
  have c0 : w3.cell? ⟨G, 0, none⟩ = some (.int .i64 0) := by
    have h := hrow 0 0 (by omega) (by omega)
    rw [show rowFn L 0 = rowC (L[0]?.getD rowZ) from rfl, h0] at h
    exact h
  have c2 : w3.cell? ⟨G, 2, none⟩ = some (.int .i64 0) := by
    have h := hrow 0 2 (by omega) (by omega)
    rw [show rowFn L 0 = rowC (L[0]?.getD rowZ) from rfl, h0] at h
    exact h
  have c1 : w3.cell? ⟨G, m * 5 + 1, none⟩ = some (.int .i64 (N : Nat)) := by
    have h := hrow m 1 (by omega) (by omega)
    rw [show rowFn L m = rowC (L[m]?.getD rowZ) from rfl, hm] at h
    exact h
  have c3 : w3.cell? ⟨G, m * 5 + 3, none⟩ = some (.int .i64 (s.size : Nat)) := by
    have h := hrow m 3 (by omega) (by omega)
    rw [show rowFn L m = rowC (L[m]?.getD rowZ) from rfl, hm] at h
    exact h
  have x0 := Later.cell c0
  have x1 := Later.cell c1
  have x2 := Later.cell c2
  have x3 := Later.cell c3
  have cC : ∀ p' : Later w3, Calls Tryd.prog 22 #[.string s] p'.W fun e w'' => e = .returned (.int .i64 (N : Nat)) ∧ ∃ q : Later w3, w'' = q.W := fun p' => Calls.later_of (HC.out _)
  have wp1 : IntKind.i64.wrap ((m : Int) + 1 - 1) = (m : Int) := by rw [IntKind.wrap_i64]; omega
  have wp2 : IntKind.i64.wrap (m : Int) = (m : Int) := by rw [IntKind.wrap_i64]; omega
  have hm0 : ((m : Int) + 1 == 0) = false := beq_eq_false_iff_ne.2 (by omega)
  clear c0 c1 c2 c3
  go_wp2_with fail
  refine wp_region_later (by kernel_rfl) (by kernel_rfl) ?_
  repeat (go_big_quiet_step (first | with_reducible exact cC _))
  refine wpQuiet_nil ?_
  intro _ hw'
  obtain ⟨pq, hw''⟩ := hw'
  subst hw''
  have hVb := pq.hb
  obtain ⟨V, hV⟩ : ∃ V, pq.W = V := ⟨_, rfl⟩
  rw [hV] at hVb ⊢
  have HVV := Lib.hid (hVY.below hVb)
  have HRV := Lib.hid (hrow.below (rowFn_len _) hVb)
  have hbV := nx hbY hVb
  have hGV : G < V.heap.size := by have := hVb.size; omega
  clear hV x0 x1 x2 x3 cC wp1 wp2 hm0 hVb hVY hrow hbY hG2 h0 hm HRR a2 b1
  go_wp2_with fail
  go_loopw [7] (fun i wr => ∃ k : Nat, i = .int .i64 (k : Nat) ∧ k ≤ m + 1 ∧ Below V.heap.size V wr) (fun i _ => m + 1 - (intOf i).toNat)
  case atStart => exact ⟨0, rfl, Nat.zero_le _, Below.refl _ _⟩
  case round =>
    obtain ⟨k, rfl, hk, hb⟩ := hrel
    by_cases hlt : k < m + 1
    · have hki : (k : Int) < (m : Int) + 1 := by omega
      obtain ⟨⟨fr, tx, pf, pt, rc⟩, hr, e1, e2, e3, e4, e5, e6, e7, -⟩ := HRW.out k hlt
      simp only at e1 e2 e3 e4 e5 e6 e7
      have hmono : pf ≤ pt := by
        rw [e1, e2]
        rcases Nat.lt_or_ge fr tx with h | h
        · exact Nat.le_of_lt (atN_lt l h (by rw [HN.out]; exact e4))
        · rw [show fr = tx by omega]; exact Nat.le_refl _
      have hpts : pt ≤ s.size := by
        rw [e2, ← HLEN.out]
        exact (cut_at l tx (by rw [HN.out]; exact e4)).1
      have hseg : countN (bs (s.extract pf pt)) = tx - fr := by
        rw [bs_extract, HL.out, e1, e2]
        exact HSEG.out fr tx e3 e4
      have hrows : ∀ j, j < 5 → wr.cell? ⟨G, k * 5 + j, none⟩ = (rowC ⟨fr, tx, pf, pt, rc⟩)[j]? := by
        intro j hj
        have h := (HRV.out.below (rowFn_len _) hb) k j hlt hj
        rw [h]
        show (rowC (L[k]?.getD rowZ))[j]? = _
        rw [hr]
        rfl
      have hprev : k = 0 ∨ ∃ q, k = q + 1 ∧ wr.cell? ⟨G, q * 5 + 1, none⟩ = some (.int .i64 (fr : Nat)) ∧ wr.cell? ⟨G, q * 5 + 3, none⟩ = some (.int .i64 (pf : Nat)) := by
        rcases k with _ | q
        · exact .inl rfl
        · refine .inr ⟨q, rfl, ?_⟩
          obtain ⟨⟨fr', tx', pf', pt', rc'⟩, hr', -, g2, -, -, -, -, -, -⟩ := HRW.out q (by omega)
          have hn := HNX.out q (by omega)
          rw [hr, hr'] at hn
          simp only [Option.getD_some] at hn g2
          have hq : ∀ j, j < 5 → wr.cell? ⟨G, q * 5 + j, none⟩ = (rowC ⟨fr', tx', pf', pt', rc'⟩)[j]? := by
            intro j hj
            have h := (HRV.out.below (rowFn_len _) hb) q j (by omega) hj
            rw [h]
            show (rowC (L[q]?.getD rowZ))[j]? = _
            rw [hr']
            rfl
          have h1 := hq 1 (by omega)
          have h3 := hq 3 (by omega)
          rw [hn]
          rw [e1, hn, ← g2]
          exact ⟨h1, h3⟩
      have d0 : wr.cell? ⟨G, k * 5, none⟩ = some (.int .i64 (fr : Nat)) := hrows 0 (by omega)
      have d1 : wr.cell? ⟨G, k * 5 + 1, none⟩ = some (.int .i64 (tx : Nat)) := hrows 1 (by omega)
      have d2 : wr.cell? ⟨G, k * 5 + 2, none⟩ = some (.int .i64 (pf : Nat)) := hrows 2 (by omega)
      have d3 : wr.cell? ⟨G, k * 5 + 3, none⟩ = some (.int .i64 (pt : Nat)) := hrows 3 (by omega)
      have d4 : wr.cell? ⟨G, k * 5 + 4, none⟩ = some (.int .i64 (rc : Nat)) := hrows 4 (by omega)
      have HFX := Lib.hid (And.intro e3 (And.intro e4 (And.intro e5 e6)))
      have HSG := Lib.hid hseg
      clear hrows hr e1 e2 e3 e4 e5 e6 e7 hseg
      go_upto_region 9 with fail
      go_name_world X9 hX9
      have hP : Blk X9 wr.heap.size 30 [.int .i64 (pf : Nat), .int .i64 (pt : Nat)] := by rw [← hX9]; exact Blk.new wr _ _
      have hb9 : Below wr.heap.size wr X9 := by rw [← hX9]; exact al (Below.refl _ _) _
      obtain ⟨Bp, hBp⟩ : ∃ Bp, wr.heap.size = Bp := ⟨_, rfl⟩
      rw [hBp] at hP ⊢
      clear hX9 hBp
      have k0 := cellKeep d0 hb9
      have k1 := cellKeep d1 hb9
      have k3 := cellKeep d3 hb9
      have k4 := cellKeep d4 hb9
      have p0 := hP.cell 0 rfl
      have p1 := hP.cell 1 rfl
      have hmd : decide (pt < pf) = false := decide_eq_false (by omega)
      have hsd : decide (s.size < pt) = false := decide_eq_false (by omega)
      have hbX9 := nx hb hb9
      go_cut [119] from 78 to 119 (fun b wx => b = .bool false ∧ ∃ n, wx = X9.drewN n)
      case first =>
        rcases hprev with rfl | ⟨q, rfl, g1, g3⟩
        · go_quiet (fail)
          go_wp2_with fail
          go_meet
          exact ⟨rfl, _, rfl⟩
        · have k1' := cellKeep g1 hb9
          have k3' := cellKeep g3 hb9
          have wq1 : IntKind.i64.wrap ((q : Int) + 1 - 1) = (q : Int) := by rw [IntKind.wrap_i64]; omega
          have wq2 : IntKind.i64.wrap (q : Int) = (q : Int) := by rw [IntKind.wrap_i64]; omega
          go_quiet (fail)
          go_wp2_with fail
          go_meet
          exact ⟨rfl, _, rfl⟩
      case rest =>
        obtain ⟨rfl, n9, rfl⟩ := hcut
        have hbd : Below wr.heap.size wr (X9.drewN n9) := below_drewN hb9 _
        have hPd : Blk (X9.drewN n9) Bp 30 [.int .i64 (pf : Nat), .int .i64 (pt : Nat)] := hP
        obtain ⟨Y9, hY9⟩ : ∃ Y9, X9.drewN n9 = Y9 := ⟨_, rfl⟩
        rw [hY9] at hbd hPd ⊢
        clear hY9 hb9 hP k0 k1 k3 k4 p0 p1 hbX9 hprev hmd hsd
        have x0 := Later.cell (cellKeep d0 hbd)
        have x1 := Later.cell (cellKeep d1 hbd)
        have q0 := Later.cell (hPd.cell 0 rfl)
        have q1 := Later.cell (hPd.cell 1 rfl)
        have d4' := cellKeep d4 hbd
        obtain ⟨g3, g4, g5, g6⟩ := HFX.out
        have cE : ∀ p' : Later Y9, Calls Tryd.prog 22 #[.string (s.extract pf pt)] p'.W fun e w'' => e = .returned (.int .i64 ((tx - fr : Nat) : Int)) ∧ ∃ q : Later Y9, w'' = q.W := fun p' => by
          have h := HCE.out pf pt p'.W
          rw [HSG.out] at h
          exact Calls.later_of h
        have hsub : IntKind.i64.wrap ((tx : Int) - (fr : Int)) = ((tx - fr : Nat) : Int) := by rw [IntKind.wrap_i64]; omega
        clear d0 d1 d2 d3 d4
        go_wp2_with fail
        go_cut [155] from 120 to 155 (fun b wx => b = .bool false ∧ Below Y9.heap.size Y9 wx)
        case first =>
          by_cases hft : fr = tx
          · have hs0 : s.size = 0 := HNIL.out.2 (g5 hft)
            have HS0 := Lib.hid (show s = ⟨#[]⟩ by
              obtain ⟨⟨ls⟩⟩ := s
              have : ls.length = 0 := hs0
              rw [List.length_eq_zero_iff.1 this])
            have hfd : ((fr : Int) == (tx : Int)) = true := beq_iff_eq.2 (by omega)
            subst hft
            clear hs0 g5
            refine wp_region_later (by kernel_rfl) (by kernel_rfl) ?_
            repeat (go_big_quiet_step (first | with_reducible exact cE _))
            refine wpQuiet_nil ?_
            intro _ hw'
            obtain ⟨pq, hw''⟩ := hw'
            subst hw''
            go_wp2_with fail
            go_meet
            exact ⟨congrArg Value.bool (by rw [HS0.out]; first | decide +kernel | kernel_rfl), pq.hb⟩
          · have hfd : ((fr : Int) == (tx : Int)) = false := beq_eq_false_iff_ne.2 (by omega)
            refine wp_region_later (by kernel_rfl) (by kernel_rfl) ?_
            repeat (go_big_quiet_step (first | with_reducible exact cE _))
            refine wpQuiet_nil ?_
            intro _ hw'
            obtain ⟨pq, hw''⟩ := hw'
            subst hw''
            go_wp2_with fail
            go_meet
            exact ⟨rfl, pq.hb⟩
        case rest =>
          obtain ⟨rfl, hbe⟩ := hcut
          have k4 := cellKeep d4' hbe
          have hbc := nx (nx hb hbd) hbe
          have v0 := (HVV.out.below hbc).cell 0 rfl
          clear x0 x1 q0 q1 cE hsub d4' hPd hbd hbe HSG HFX g3 g4 g5
          rcases g6 with g6 | ⟨g7, g8⟩
          · have hfd : decide (W' < rc) = false := decide_eq_false (by omega)
            go_wp2_with fail
            go_quiet (fail)
            go_wp2_with fail
            exact ⟨⟨k + 1, by go_num, by omega, below_drewN hbc _⟩, by simp [intOf]; omega⟩
          · subst g8
            have i1 : (W' : Int) < 2 := by omega
            have i2 : (W' : Int) ≤ 1 := by omega
            have i3 : W' < 2 := by omega
            have i4 : W' ≤ 1 := by omega
            have i5 : decide (1 < W') = false := decide_eq_false (by omega)
            clear g7
            go_wp2_with fail
            go_quiet (fail)
            go_wp2_with fail
            exact ⟨⟨k + 1, by go_num, by omega, below_drewN hbc _⟩, by simp [intOf]; omega⟩
    · obtain rfl : k = m + 1 := by omega
      have hd : decide (m + 1 < m + 1) = false := decide_eq_false (by omega)
      have hVr := HVV.out.below hb
      have x0 := Later.cell (hVr.cell 0 rfl)
      have x1 := Later.cell (hVr.cell 1 rfl)
      have hbW := nx hbV hb
      obtain ⟨cc, hcc⟩ : ∃ cc, colsV l 0 (T' : Nat) = cc := ⟨_, rfl⟩
      have hon := HON.out
      have HCO' := Lib.hid (fun w => HCO.out (T' : Nat) w)
      rw [hcc] at hon HCO'
      clear hcc
      have cK : ∀ p' : Later wr, Calls Tryd.prog 23 #[.string s, .int .i64 0, .int .i64 (T' : Nat)] p'.W fun e w'' => e = .returned (.int .i64 (cc : Nat)) ∧ ∃ q : Later wr, w'' = q.W := fun p' => Calls.later_of (HCO'.out _)
      go_wp2_with fail
      by_cases hcw : cc ≤ W'
      · obtain rfl : m = 0 := hon hcw
        have hcd : decide (cc ≤ W') = true := decide_eq_true hcw
        refine wp_region_later (by kernel_rfl) (by kernel_rfl) ?_
        repeat (go_big_quiet_step (first | with_reducible exact cK _))
        refine wpQuiet_nil ?_
        intro _ hw'
        obtain ⟨pq, hw''⟩ := hw'
        subst hw''
        have hbp := nx hbW pq.hb
        go_wp2_with (first | (go_at_call 16; (with_reducible refine (HW.out _ (HT.out.below hbp (Nat.le_refl _))).mono ?_); rintro e w7 ⟨rfl, hb7⟩; have hb17 := nx hbp hb7))
        go_ret
        exact ⟨rfl, hb17⟩
      · have hcd : decide (cc ≤ W') = false := decide_eq_false hcw
        refine wp_region_later (by kernel_rfl) (by kernel_rfl) ?_
        repeat (go_big_quiet_step (first | with_reducible exact cK _))
        refine wpQuiet_nil ?_
        intro _ hw'
        obtain ⟨pq, hw''⟩ := hw'
        subst hw''
        have hbp := nx hbW pq.hb
        go_wp2_with (first | (go_at_call 16; (with_reducible refine (HW.out _ (HT.out.below hbp (Nat.le_refl _))).mono ?_); rintro e w7 ⟨rfl, hb7⟩; have hb17 := nx hbp hb7))
        go_ret
        exact ⟨rfl, hb17⟩
end Go.Proofs.YticonolnagcakaaDoor
