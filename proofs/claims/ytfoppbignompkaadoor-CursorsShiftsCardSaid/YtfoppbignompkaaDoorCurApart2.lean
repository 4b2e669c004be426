/-
  The law's apart: its contract.
-/
import Derived.Test.YtfoppbignompkaaDoorCurApart
namespace Go.Proofs.YtfoppbignompkaaDoor
open Go.RowKit

theorem bCu_cells (i : Nat) : cuC (bCu i) = [.int .u32 0, .int .i64 (2000 + (i : Int)), .int .i64 0, .int .i64 0] := by
  show [Value.int .u32 0, .int .i64 ((2000 + i : Nat) : Int), .int .i64 0, .int .i64 0] = _
  rw [Int.natCast_add]
  rfl
set_option maxRecDepth 100000 in
set_option maxHeartbeats 8000000 in
theorem apartC_any (M : Nat) (hM : M ≤ 4) (n : Nat → Nat) (hn : ∀ j, j < M → n j ≤ 1048576) (v : Nat → Value) (xs : Nat → List Value) (L B : Nat) (w : World) (hB : B ≤ w.heap.size) (hLs : L < w.heap.size)
    (hrow : ∀ j, j < M → HRow w B 36 4 (v j) (n j) (xs j)) (hcel : ∀ j, j < M → w.cell? ⟨L, j, none⟩ = some (v j)) (hA : ApC M v) (hL : ∀ j, j < M → (v j).ownBlock ≠ some L) :
    Calls Tryd.prog 18 #[.slice (some ⟨L, 0, none⟩) M M] w fun e w' => e = .returned (.bool true) ∧ Below B w w' := by
  obtain ⟨i0, hi, hz0, hz1, hz2⟩ := info_parts info_cur
  obtain ⟨i1, hj, hw0, hw1, hw2⟩ := info_parts info_lists
  have HNB := Lib.hid hn
  have HX : Hid (∀ j, j < M → (xs j).length = n j * 4) := Lib.hid fun j hj => (hrow j hj).1
  have M0 : Hid (MaC M B L n v xs (fun _ => 0) w w) := Lib.hid ⟨fun j hj => by rw [mixK_zero]; exact hrow j hj, hcel, Below.refl _ _, Nat.le_refl _⟩
  have HVF : Hid (∀ j, j < M → ∃ ao c, v j = .slice ao (n j) c) := Lib.hid fun j hj => (hrow j hj).form
  have HVG : Hid (∀ j, j < M → 0 < n j → ∃ g c, v j = .slice (some ⟨g, 0, none⟩) (n j) c) := Lib.hid fun j hj hn => by obtain ⟨g, c, e, _⟩ := (hrow j hj).form1 hn; exact ⟨g, c, e⟩
  have HA := Lib.hid hA
  have HL := Lib.hid hL
  have HB := Lib.hid hB
  have HLs := Lib.hid hLs
  clear hrow hcel hA hL hLs hB hn
  go_enter Tryd.func18, Tryd.ntmps18
  go_wp2_with fail
  go_loopw [4] (fun i wr => ∃ i' : Nat, i = .int .i64 (i' : Nat) ∧ i' ≤ M ∧ Hid (MaC M B L n v xs (uptoF n i') w wr)) (fun i _ => M - (intOf i).toNat)
  case atStart => exact ⟨0, rfl, by omega, Lib.hid (by rw [show uptoF n 0 = fun _ => 0 from rfl]; exact M0.out)⟩
  case round =>
    obtain ⟨i, rfl, hi2, hM⟩ := hrel
    by_cases h2 : i < M
    · have h2i : (i : Int) < (M : Int) := by omega
      have h2z : (0 : Int) ≤ (i : Int) := by omega
      have hi4 : i < 4 := by omega
      have hMo := hM.out
      rw [← uptoF_start] at hMo
      have hM := Lib.hid hMo
      have hnb := HNB.out i h2
      obtain ⟨N, hN⟩ : ∃ N, n i = N := ⟨_, rfl⟩
      have HN := Lib.hid hN
      rw [hN] at hnb
      clear hMo hN
      obtain ⟨wo, rfl⟩ : ∃ wo : World, wo = wr := ⟨_, rfl⟩
      go_wp2_with fail
      go_loopw [5] (fun k wr => ∃ k' : Nat, k = .int .i64 (k' : Nat) ∧ k' ≤ N ∧ Hid (MaC M B L n v xs (updC (uptoF n i) i k') w wr)) (fun k _ => N - (intOf k).toNat)
      case atStart => exact ⟨0, rfl, Nat.zero_le _, hM⟩
      case round =>
        clear hM
        obtain ⟨k, rfl, hk, hM⟩ := hrel
        have d0 := hM.out.cel i h2
        obtain ⟨ao, c, hv⟩ := (hM.out.row i h2).form
        rw [hv, HN.out] at d0
        by_cases hkn : k < N
        · have hki : (k : Int) < (N : Int) := by omega
          have hkz : (0 : Int) ≤ (k : Int) := by omega
          obtain ⟨g, c', hv', hBg, hgW⟩ := (hM.out.row i h2).form1 (by rw [HN.out]; omega)
          obtain ⟨rfl, rfl⟩ : ao = some ⟨g, 0, none⟩ ∧ c = c' := by rw [hv] at hv'; injection hv' with e1 e2 e3; exact ⟨e1, e3⟩
          have hr := hM.out.row i h2
          rw [hv] at hr
          have f0 := hr.frozenAt (k * 4)
          have f1 := hr.frozenAt (k * 4 + 1)
          have f2 := hr.frozenAt (k * 4 + 2)
          have f3 := hr.frozenAt (k * 4 + 3)
          have hex : ∀ j, j < 4 → ∃ u, wr.cell? ⟨g, k * 4 + j, none⟩ = some u := fun j hj => ⟨_, (hr.cellAt (k * 4 + j) (by rw [HN.out]; omega)).trans (List.getElem?_eq_getElem (by have := hr.1; rw [HN.out] at this; omega))⟩
          obtain ⟨u0, e0⟩ := hex 0 (by omega)
          obtain ⟨u1, e1⟩ := hex 1 (by omega)
          obtain ⟨u2, e2⟩ := hex 2 (by omega)
          obtain ⟨u3, e3⟩ := hex 3 (by omega)
          rw [Nat.add_zero] at e0
          have HV := Lib.hid hv
          clear hv hv' hr hex
          go_wp2_with fail
          refine ⟨⟨k + 1, by go_num, by omega, Lib.hid ?_⟩, by simp [intOf]; omega⟩
          have := hM.out.step HA.out HX.out HL.out h2 (show k < n i by rw [HN.out]; exact hkn) (updC_same _ _ _) HV.out (1000 + (i : Int)) (by omega)
          rw [updC_updC] at this
          exact this
        · obtain rfl : k = N := by omega
          have hkd : decide (k < k) = false := decide_eq_false (by omega)
          have hMo := hM.out
          rw [← HN.out, uptoF_next] at hMo
          have hM := Lib.hid hMo
          clear hMo
          go_wp2_with fail
          exact ⟨⟨i + 1, by go_num, by omega, hM⟩, by simp [intOf]; omega⟩
    · obtain rfl : i = M := by omega
      have hsz := hM.out.siz
      have hLH : L < wr.heap.size := Nat.lt_of_lt_of_le HLs.out hsz
      have hBH : B ≤ wr.heap.size := Nat.le_trans HB.out hsz
      have hvH : Hid (∀ j, j < i → ∀ g, (v j).ownBlock = some g → g < wr.heap.size) := Lib.hid fun j hj g hg => ((hM.out.row j hj).lt g hg).2
      have F0 : Hid (FpC i B L wr.heap.size n v v (uptoF (fun _ => 30) 0) w wr) := by
        have hr : ∀ j, j < i → HRow wr B 36 4 (v j) (n j) (repC (aCu j) (n j)) := fun j hj => by
          have := hM.out.row j hj
          rw [uptoF_lt _ _ _ hj, mixK_full _ _ _ (HX.out j hj)] at this
          exact this
        refine Lib.hid ⟨fun j hj => ?_, fun j hj g hg k hk => ?_, hM.out.cel, fun j hj => .inl rfl, HA.out, Nat.le_refl _, hM.out.bel⟩
        · rw [show uptoF (fun _ => 30) 0 j = 0 from if_neg (Nat.not_lt_zero _), mkG_zero]
          exact hr j hj
        · obtain ⟨g', c', e', _, _⟩ := (hr j hj).form1 (by omega)
          have h := hr j hj
          rw [e'] at h hg
          obtain rfl : g' = g := by simpa [Value.ownBlock] using hg
          rw [h.cellAt (k * 4 + 1) (by omega), repC_get _ _ _ hk]
          rfl
      obtain ⟨H, hH⟩ : ∃ H, wr.heap.size = H := ⟨_, rfl⟩
      rw [hH] at hLH hBH hvH F0
      have HLH := Lib.hid hLH
      have HBH := Lib.hid hBH
      obtain ⟨M, rfl⟩ : ∃ M, M = i := ⟨_, rfl⟩
      have hkd : decide (M < M) = false := decide_eq_false (by omega)
      clear M0 hM hH hsz hLH hBH hi2
      go_wp2_with fail
      go_loopw [3, 6] (fun gr i W => ∃ (i' : Nat) (p : Nat → Value), i = .int .i64 (i' : Nat) ∧ i' ≤ M ∧ Hid (FpC M B L H n v p (uptoF (fun _ => 30) i') w W) ∧ Hid (∀ j, i' ≤ j → p j = v j) ∧ Hid (W.ownsRow H 22 1 gr i' ((List.range i').map p))) (fun _ i _ => M - (intOf i).toNat)
      case atStart => exact ⟨0, v, rfl, by omega, F0, Lib.hid fun _ _ => rfl, Lib.hid (World.ownsRow_nil _ _ _ _)⟩
      case round =>
        clear F0 hkd
        obtain ⟨i, p0, rfl, hi2, hF, hpv, hG⟩ := hrel
        by_cases h2 : i < M
        · have h2i : (i : Int) < (M : Int) := by omega
          have h2z : (0 : Int) ≤ (i : Int) := by omega
          have hi4 : i < 4 := by omega
          have d0 := hF.out.C i h2
          have hP := hF.out.P i h2
          rw [hpv.out i (Nat.le_refl _), show uptoF (fun _ => 30) i i = 0 from if_neg (Nat.lt_irrefl _), Nat.add_zero] at hP
          obtain ⟨ao, c, hv⟩ := hP.form
          rw [hv] at d0
          have HV := Lib.hid (hv.symm.trans (hpv.out i (Nat.le_refl _)).symm)
          have hFo := hF.out
          rw [← uptoF_start] at hFo
          have hF := Lib.hid hFo
          have hnb := HNB.out i h2
          clear hFo hP hv
          obtain ⟨wo, rfl⟩ : ∃ wo : World, wo = wr := ⟨_, rfl⟩
          go_wp2_with fail
          go_loopw [7, 8] (fun g k W => ∃ (k' : Nat) (p : Nat → Value), k = .int .i64 (k' : Nat) ∧ k' ≤ 30 ∧ Hid (g = p i) ∧ Hid (FpC M B L H n v p (updC (uptoF (fun _ => 30) i) i k') w W) ∧ Hid (∀ j, j ≠ i → p j = p0 j) ∧ Hid (W.ownsRow H 22 1 u3 i ((List.range i).map p0))) (fun _ k _ => 30 - (intOf k).toNat)
          case atStart => exact ⟨0, p0, rfl, by omega, HV, hF, Lib.hid fun _ _ => rfl, hG⟩
          case round =>
            clear hF hG HV d0
            obtain ⟨k, p, rfl, hk, hgp, hF, hpp, hG⟩ := hrel
            have hP := hF.out.P i h2
            rw [← hgp.out, updC_same] at hP
            obtain ⟨a7, c7, rfl⟩ := hP.form
            have hHs := hF.out.siz
            have hBs : B ≤ wr.heap.size := Nat.le_trans HBH.out hHs
            by_cases hk7 : k < 30
            · have hki : (k : Int) < 30 := by omega
              have hrowb := Lib.hid (hP.below ((Below.refl _ _).alloc (Nat.le_refl _) (.cells #[.int .u32 0, .int .i64 (2000 + (i : Int)), .int .i64 0, .int .i64 0] 36)) (Nat.le_refl _))
              clear hP
              go_wp2_with (at_builtin; refine wpList_append_held rfl _ _ 22 rfl B 36 i0 (.agg #[.int .u32 0, .int .i64 0, .int .i64 0, .int .i64 0]) 4 32 Tryd.underlying22 hi hz0 hz1 hz2 rfl _ _ _ rfl hrowb.out ⟨wr.heap.size, 0, none⟩ 1 1 [.int .u32 0, .int .i64 (2000 + (i : Int)), .int .i64 0, .int .i64 0] rfl (by simp) (cells_new _ _ _) (by simp [Value.oneCell']) (by unfold maxLen; omega) (by omega) (by rw [World.size_alloc]; omega) (by omega) ?_; intro v4 w4 hown4 hgrow4 hwh4)
              refine ⟨⟨k + 1, updC p i v4, by go_num, by omega, Lib.hid (updC_same _ _ _).symm, Lib.hid ?_, Lib.hid fun j hj => by rw [updC_other _ _ _ _ hj]; exact hpp.out j hj, Lib.hid ?_⟩, by simp [intOf]; omega⟩
              · have hFb := hF.out.below ((Below.refl _ _).alloc (Nat.le_refl _) (.cells #[.int .u32 0, .int .i64 (2000 + (i : Int)), .int .i64 0, .int .i64 0] 36)) hBs
                have hq : updC (uptoF (fun _ => 30) i) i k i = k := updC_same _ _ _
                have := hFb.step h2 (by rw [World.size_alloc]; omega) HA.out hvH.out HLH.out HL.out (p' := v4) (by rw [hq, bCu_cells]; exact hown4) (by rw [← hgp.out]; exact hgrow4) (by rw [← hgp.out]; exact hwh4)
                rw [updC_updC, hq] at this
                exact this
              · have hGb := hG.out.alloc (.cells #[.int .u32 0, .int .i64 (2000 + (i : Int)), .int .i64 0, .int .i64 0] 36)
                exact hGb.kept hgrow4 (noneC_or ((HRow.of_own hGb).apart hrowb.out (by decide)))
            · obtain rfl : k = 30 := by omega
              have hFo := hF.out
              rw [show updC (uptoF (fun _ => 30) i) i 30 = uptoF (fun _ => 30) (i + 1) from uptoF_next (fun _ => 30) i] at hFo
              have hF := Lib.hid hFo
              have hPH := Lib.hid hP
              clear hFo hP
              go_wp2_with (at_builtin; refine wpList_append_own _ rfl _ _ 31 rfl H 22 i1 (.slice none 0 0) 1 24 Tryd.underlying31 hj hw0 hw1 hw2 rfl (by decide) u3 i _ rfl (hG.out.alloc _) ⟨wr.heap.size, 0, none⟩ 1 1 [.slice a7 (n i + 30) c7] rfl (by simp) (cells_new _ _ _) (by simp [Value.oneCell']) (by unfold maxLen; omega) (by omega) (by rw [World.size_alloc]; omega) ?_; intro v4 w4 hown4 hgrow4 _)
              refine ⟨⟨i + 1, p, by go_num, by omega, Lib.hid ?_, Lib.hid fun j hj => (hpp.out j (by omega)).trans (hpv.out j (by omega)), Lib.hid ?_⟩, by simp [intOf]; omega⟩
              · refine (hF.out.below ((Below.refl _ _).alloc (Nat.le_refl _) (.cells #[.slice a7 (n i + 30) c7] 22)) hBs).other hgrow4 (by rw [World.size_alloc]; omega) (fun g e => ⟨(hG.out.lt g e).1, Nat.le_trans HBH.out (hG.out.lt g e).1, fun j hj => ?_⟩) hvH.out HLH.out
                exact (HRow.of_own hG.out).apart (hF.out.P j hj) (by decide) g e
              · rw [List.range_succ, List.map_append, List.map_singleton, ← hgp.out]
                rw [show List.map p (List.range i) = List.map p0 (List.range i) from List.map_congr_left fun j hj => hpp.out j (by have := List.mem_range.1 hj; omega)]
                exact hown4
        · obtain rfl : i = M := by omega
          have HGC : Hid (∀ j, j < i → ∃ gp cp, wr.cell? ⟨(u3.ownBlock).getD 0, j, none⟩ = some (.slice (some ⟨gp, 0, none⟩) (n j + 30) cp) ∧ (∀ k, k < n j → wr.cell? ⟨gp, k * 4 + 1, none⟩ = some (.int .i64 ((1000 + j : Nat) : Int))) ∧ ∀ k, n j ≤ k → k < n j + 30 → wr.cell? ⟨gp, k * 4 + 1, none⟩ = some (.int .i64 ((2000 + j : Nat) : Int))) := Lib.hid fun j hj => by
            obtain ⟨i', rfl⟩ : ∃ i', i = i' + 1 := ⟨i - 1, by omega⟩
            obtain ⟨gG, cG, e5⟩ := ownsRow_succ hG.out
            have hc := hG.out
            rw [e5] at hc
            have h1 := hc.cellAt j (by omega)
            rw [List.getElem?_map, List.getElem?_range hj] at h1
            have hp := hF.out.P j hj
            rw [uptoF_lt _ _ _ hj] at hp
            obtain ⟨gp, cp, ep, _, _⟩ := hp.form1 (by omega)
            rw [e5]
            rw [ep] at hp
            refine ⟨gp, cp, h1.trans (by rw [← ep]; rfl), fun k hk => ?_, fun k hk hk2 => ?_⟩
            · rw [hp.cellAt (k * 4 + 1) (by omega), mkG_lt _ _ _ _ hk]
            · rw [hp.cellAt (k * 4 + 1) (by omega), mkG_ge _ _ _ _ hk hk2]
          obtain ⟨aG, cG, e5⟩ : ∃ a cap, u3 = .slice a i cap := (HRow.of_own hG.out).form
          have HG5 : Hid (0 < i → aG = some ⟨(u3.ownBlock).getD 0, 0, none⟩) := Lib.hid fun h0 => by
            obtain ⟨g5, c5, e6, _, _⟩ := (HRow.of_own hG.out).form1 h0
            rw [e5] at e6
            injection e6 with e7
            rw [e5, e7]
            rfl
          obtain ⟨gG, hgG⟩ : ∃ gG, (u3.ownBlock).getD 0 = gG := ⟨_, rfl⟩
          rw [hgG] at HGC HG5
          clear hgG
          subst e5
          have hBs : B ≤ wr.heap.size := Nat.le_trans HBH.out hF.out.siz
          clear hG h2
          obtain ⟨W9, hW9⟩ : ∃ W9, wr = W9 := ⟨_, rfl⟩
          rw [hW9] at hF HGC hBs ⊢
          clear hW9
          obtain ⟨M, rfl⟩ : ∃ M, M = i := ⟨_, rfl⟩
          have hkd : decide (M < M) = false := decide_eq_false (by omega)
          clear hi2
          go_wp2_with fail
          clear hkd
          go_loopw [9] (fun i W => ∃ (i' : Nat), i = .int .i64 (i' : Nat) ∧ i' ≤ M ∧ Below W9.heap.size W9 W) (fun i _ => M - (intOf i).toNat)
          case atStart => exact ⟨0, rfl, by omega, Below.refl _ _⟩
          case round =>
            obtain ⟨i, rfl, hi2, hb⟩ := hrel
            by_cases h2 : i < M
            · have h2i : (i : Int) < (M : Int) := by omega
              have h2z : (0 : Int) ≤ (i : Int) := by omega
              have hi4 : i < 4 := by omega
              obtain rfl := HG5.out (by omega)
              obtain ⟨gp, cp, hc, hcs, hct⟩ := HGC.out i h2
              have HCS := Lib.hid hcs
              have HCT := Lib.hid hct
              have hl := hF.out.C i h2
              obtain ⟨ao, c, hv⟩ := HVF.out i h2
              rw [hv] at hl
              have HVI := Lib.hid (HVG.out i h2)
              have HV := Lib.hid hv
              have HA0 := Lib.hid (hF.out.A i h2)
              have hnb := HNB.out i h2
              obtain ⟨N, hN⟩ : ∃ N, n i = N := ⟨_, rfl⟩
              rw [hN] at hc HCS HCT hl HVI HV HA0 hnb
              clear hcs hct hv hN
              obtain ⟨N3, hN3⟩ : ∃ N3, N + 30 = N3 := ⟨_, rfl⟩
              rw [hN3] at hc HCT
              have hN3b : N3 ≤ 1048606 := by omega
              have HN3 := Lib.hid hN3
              have d0 := cellKeep hc hb
              clear hN3
              obtain ⟨wo, rfl⟩ : ∃ wo : World, wo = wr := ⟨_, rfl⟩
              go_wp2_with fail
              go_loopw [10] (fun k W => ∃ (k' : Nat), k = .int .i64 (k' : Nat) ∧ k' ≤ N3 ∧ Below W9.heap.size W9 W) (fun k _ => N3 - (intOf k).toNat)
              case atStart => exact ⟨0, rfl, Nat.zero_le _, hb⟩
              case round =>
                clear d0 hb
                obtain ⟨k, rfl, hk, hb⟩ := hrel
                have d0 := cellKeep hc hb
                by_cases hkN : k < N3
                · have hki : (k : Int) < (N3 : Int) := by omega
                  have hkz : (0 : Int) ≤ (k : Int) := by omega
                  have d2 := cellKeep hl hb
                  by_cases hkn : k < N
                  · have hkj : (k : Int) < (N : Int) := by omega
                    have hkd : decide (N ≤ k) = false := decide_eq_false (by omega)
                    have d1 := cellKeep (HCS.out k hkn) hb
                    obtain ⟨g, hg⟩ : ∃ g, ao = some ⟨g, 0, none⟩ := by
                      obtain ⟨g, c', e⟩ := HVI.out (by omega)
                      rw [HV.out] at e
                      injection e with e1
                      exact ⟨g, e1⟩
                    subst hg
                    have d3 := cellKeep (HA0.out g (by rw [HV.out]; rfl) k hkn) hb
                    rw [Int.natCast_add, show ((1000 : Nat) : Int) = 1000 from rfl] at d1 d3
                    go_wp2_with fail
                    exact ⟨⟨k + 1, by go_num, by omega, hb⟩, by simp [intOf]; omega⟩
                  · have hkd : decide (k < N) = false := decide_eq_false hkn
                    have hkd2 : decide ((k : Int) < (N : Int)) = false := decide_eq_false (by omega)
                    have hkd3 : (N : Int) ≤ (k : Int) := by omega
                    have d1 := cellKeep (HCT.out k (by omega) hkN) hb
                    rw [Int.natCast_add, show ((2000 : Nat) : Int) = 2000 from rfl] at d1
                    go_wp2_with fail
                    exact ⟨⟨k + 1, by go_num, by omega, hb⟩, by simp [intOf]; omega⟩
                · obtain rfl : k = N3 := by omega
                  have hkd : decide (k < k) = false := decide_eq_false (by omega)
                  go_wp2_with fail
                  exact ⟨⟨i + 1, by go_num, by omega, hb⟩, by simp [intOf]; omega⟩
            · obtain rfl : i = M := by omega
              have hkd : decide (i < i) = false := decide_eq_false (by omega)
              go_wp2_with fail
              go_ret
              exact ⟨rfl, hF.out.bel.trans (hb.mono hBs)⟩
end Go.Proofs.YtfoppbignompkaaDoor
