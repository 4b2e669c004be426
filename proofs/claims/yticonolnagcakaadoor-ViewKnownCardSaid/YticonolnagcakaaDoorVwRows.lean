/-
  The rows of a line: the walk of the statement ViewRows.
-/
import Derived.Test.YticonolnagcakaaDoorVwRefP
import Derived.Test.YticonolnagcakaaDoorVwB
import Derived.Test.YticonolnagcakaaDoorVwC
import Derived.Deep.AppendLies
namespace Go.Proofs.YticonolnagcakaaDoor
open Go.RowKit

set_option maxRecDepth 100000 in
set_option maxHeartbeats 4000000 in
theorem refrows_any (W T : Int) (s : ByteArray) (hs : s.size ≤ 67108864) (w : World) :
    Calls Tryd.prog 10 #[.string s, .int .i64 W, .int .i64 T] w fun e w' => ∃ v, e = .returned (.tuple #[v, .int .i64 (rowsR W T (bs s)).2]) ∧
      w'.ownsRow w.heap.size 32 5 v (rowsR W T (bs s)).1.length ((rowsR W T (bs s)).1.flatMap rowC) ∧ Below w.heap.size w w' := by
  obtain ⟨i0, hi, hz0, hz1, hz2⟩ := info_parts info_row
  have HG := Lib.hid (fun w => refwrong28_any W T w)
  cases hg : goodV W T
  · rw [hg] at HG
    have hv : rowsR W T (bs s) = ([], 280) := if_pos hg
    rw [hv]
    clear hv hg
    go_enter Tryd.func10, Tryd.ntmps10
    go_wp2_with (first | (go_at_call 28; (with_reducible refine (HG.out _).mono ?_); rintro e w2 ⟨rfl, rfl⟩))
    go_ret2
    exact ⟨_, rfl, World.ownsRow_nil _ _ _ _, Below.refl _ _⟩
  · rw [hg] at HG
    obtain ⟨W', T', rfl, rfl, hW, hW2, hT1, hT2⟩ := goodV_of hg
    have hv : rowsR (W' : Nat) (T' : Nat) (bs s) = (rowsL W' T' (bs s) (countN (bs s)), 0) := if_neg (by rw [hg]; simp)
    have HP := Lib.hid (fun w => refput_at W' T' hW2 hT1 hT2 s hs w)
    have hle : countN (bs s) ≤ s.size := by rw [size_bs]; exact countN_le _
    rw [hv]
    obtain ⟨l, hl⟩ : ∃ l, bs s = l := ⟨_, rfl⟩
    rw [hl] at HP hle ⊢
    obtain ⟨N, hN⟩ : ∃ N, countN l = N := ⟨_, rfl⟩
    rw [hN] at HP hle ⊢
    have HN := Lib.hid hN
    have hN9 : N ≤ 67108864 := by omega
    have HLS := Lib.hid (show ∀ k, k ≤ N → atN l k ≤ 67108864 from fun k hk => by
      have h := (cut_at l k (by rw [hN]; exact hk)).1
      have h2 : l.length = s.size := by rw [← hl, size_bs]
      omega)
    clear hl hN hg hT1 hT2 hv hle
    go_enter Tryd.func10, Tryd.ntmps10
    go_upto_region 4 with (first
      | (go_at_call 28; (with_reducible refine (HG.out _).mono ?_); rintro e w2 ⟨rfl, rfl⟩)
      | (go_at_call 29; (with_reducible refine (HP.out _).mono ?_); rintro e w2 ⟨a1, c1, g2, c2, a3, c3, rfl, hro1, hg2, hr2, hro3, hb2⟩))
    go_name_world Y hY
    have hL : Blk Y w2.heap.size 73 [.slice a1 N c1, .slice (some ⟨g2, 0, none⟩) (N + 1) c2, .slice a3 N c3] := by rw [← hY]; exact Blk.new w2 _ _
    have hBY : Below w.heap.size w Y := by rw [← hY]; exact al hb2 _
    have hb2Y : Below w2.heap.size w2 Y := by rw [← hY]; exact al (Below.refl _ _) _
    have hg2Y : g2 < Y.heap.size := Nat.lt_of_lt_of_le hg2 hb2Y.size
    have HS := Lib.hid (hr2.below (spotC_len _ _ _) hb2Y)
    have HC := Lib.hid (show 0 < N → ∃ g, a1 = some ⟨g, 0, none⟩ ∧ g < Y.heap.size ∧ RowAt Y g 4 N (rcC l) from fun h0 => by
      obtain ⟨g, e1, e2, e3⟩ := hro1 h0
      exact ⟨g, e1, Nat.lt_of_lt_of_le e2 hb2Y.size, e3.below (rcC_len _) hb2Y⟩)
    have HK := Lib.hid (show 0 < N → ∃ g, a3 = some ⟨g, 0, none⟩ ∧ g < Y.heap.size ∧ RowAt Y g 1 N (takeC W' T' l) from fun h0 => by
      obtain ⟨g, e1, e2, e3⟩ := hro3 h0
      exact ⟨g, e1, Nat.lt_of_lt_of_le e2 hb2Y.size, e3.below (takeC_len _ _ _) hb2Y⟩)
    have hws := hBY.size
    obtain ⟨P, hP⟩ : ∃ P, w2.heap.size = P := ⟨_, rfl⟩
    rw [hP] at hL ⊢
    clear hY hro1 hro3 hr2 hg2 hb2 hb2Y hP
    go_upto_region 5 with fail
    go_name_world Z hZ
    have hr0 : Z.ownsRow Y.heap.size 32 5 (.slice (some ⟨Y.heap.size, 0, none⟩) 1 1) 1 ([rowZ].flatMap rowC) := by rw [← hZ]; exact row_new Y _ rowZ
    have hYZ : Below Y.heap.size Y Z := by rw [← hZ]; exact al (Below.refl _ _) _
    clear hZ
    go_wp2_with fail
    go_loopw [9, 10] (fun v i wr => ∃ k : Nat, i = .int .i64 (k : Nat) ∧ k ≤ N ∧ wr.ownsRow Y.heap.size 32 5 v ((rowsV W' T' l k).1.length + 1) ((rowsL W' T' l k).flatMap rowC) ∧ Below Y.heap.size Y wr) (fun _ i _ => N - (intOf i).toNat)
    case atStart => exact ⟨0, rfl, Nat.zero_le _, hr0, hYZ⟩
    case round =>
      clear hr0 hYZ
      obtain ⟨k, rfl, hk, hown, hb⟩ := hrel
      have b0 := (hL.below hb).cell 0 rfl
      by_cases hlt : k < N
      · obtain ⟨g1, rfl, hg1, hrow1⟩ := HC.out (by omega)
        obtain ⟨g3, rfl, hg3, hrow3⟩ := HK.out (by omega)
        have hki : (k : Int) < (N : Int) := by omega
        have hki2 : (k : Int) < ((N + 1 : Nat) : Int) := by omega
        obtain ⟨A, fr, pf, pt, cc, m, sl, sc, tn, hA, hm, hmk, hsp, htn, hcc, htb, hnext⟩ := rows_sum W' T' hW2 l k
        unfold rowsL at hown
        rw [flat_snoc, hA] at hown
        simp only at hown
        rw [hm] at hown
        have d1 := hrow1 k 1 hlt (by omega)
        have d2 := hrow1 k 2 hlt (by omega)
        have s0 := HS.out k 0 (by omega) (by omega)
        have t0 := hrow3 k 0 hlt (by omega)
        unfold rcC at d1 d2
        unfold spotC at s0
        unfold takeC at t0
        rw [show atV W' T' l k = spV W' T' (tk l) k from if_pos (by rw [HN.out]; exact hlt), hsp] at s0
        rw [htn] at t0
        have ha9 := HLS.out k (by omega)
        have ha29 := HLS.out (k + 1) (by omega)
        obtain ⟨a, ha⟩ : ∃ x, atN l k = x := ⟨_, rfl⟩
        obtain ⟨a2, ha2⟩ : ∃ x, atN l (k + 1) = x := ⟨_, rfl⟩
        rw [ha, ha2] at d1 d2 hnext
        rw [ha] at ha9
        rw [ha2] at ha29
        have D1 : Hid (∀ {V}, Below Y.heap.size Y V → V.cell? ⟨g1, k * 4 + 1, none⟩ = some (.int .i64 (a : Nat))) := Lib.hid (fun hV => (hV.cell (p := ⟨g1, _, none⟩) hg1).trans d1)
        have D2 : Hid (∀ {V}, Below Y.heap.size Y V → V.cell? ⟨g1, k * 4 + 2, none⟩ = some (.int .i64 (a2 : Nat))) := Lib.hid (fun hV => (hV.cell (p := ⟨g1, _, none⟩) hg1).trans d2)
        have S0 : Hid (∀ {V}, Below Y.heap.size Y V → V.cell? ⟨g2, k * 2, none⟩ = some (.int .i64 (sl : Nat))) := Lib.hid (fun hV => (hV.cell (p := ⟨g2, _, none⟩) hg2Y).trans s0)
        have T0 : Hid (∀ {V}, Below Y.heap.size Y V → V.cell? ⟨g3, k, none⟩ = some (.int .i64 (tn : Nat))) := Lib.hid (fun hV => (hV.cell (p := ⟨g3, _, none⟩) hg3).trans (by rw [← Nat.mul_one k]; exact t0))
        clear ha ha2 d1 d2 s0 t0 hrow1 hrow3 hA hsp htn
        obtain ⟨G, C, hv, hGb, hGl⟩ : ∃ G C, u9 = .slice (some ⟨G, 0, none⟩) (m + 1) C ∧ Y.heap.size ≤ G ∧ G < wr.heap.size := by
          rcases hown.2 with ⟨_, h0⟩ | ⟨G, C, cur, h, hb1, hh, _⟩
          · omega
          · exact ⟨G, C, h, hb1, (Array.getElem?_eq_some_iff.1 hh).1⟩
        subst hv
        have b1 := (hL.below hb).cell 1 rfl
        have e0 := S0.out hb
        have e1 := D1.out hb
        go_upto_if 36 with fail
        go_cut [9] from 33 to 48 (fun v wx => ∃ G' : Nat, ∃ C' : Nat, ∃ m' : Nat, v = .slice (some ⟨G', 0, none⟩) (m' + 1) C' ∧ m' ≤ k + 1 ∧ ∃ A' : List RowV, A'.length = m' ∧ ∃ fr' : Nat, ∃ tx' : Nat, ∃ pf' : Nat, ∃ pt' : Nat, ∃ cc' : Nat, cc' ≤ 1024 ∧
          wx.ownsRow Y.heap.size 32 5 (.slice (some ⟨G', 0, none⟩) (m' + 1) C') (m' + 1) (A'.flatMap rowC ++ rowC ⟨fr', tx', pf', pt', cc'⟩) ∧ Below Y.heap.size Y wx ∧ Hid (rowsV W' T' l (k + 1) = (A', ⟨fr', k + 1, pf', a2, cc' + tn⟩)))
        case first =>
          rcases hnext with ⟨rfl, hcn, hn⟩ | ⟨rfl, hn⟩
          · have hn' := Lib.hid hn
            clear hn
            have hne : ((sl : Int) == (sl : Int) + 1) = false := beq_eq_false_iff_ne.2 (by omega)
            go_wp2_with fail
            go_meet
            exact ⟨G, C, _, rfl, by omega, A, hm, _, _, _, _, _, hcc, hown, hb, hn'⟩
          · have hn' := Lib.hid hn
            clear hn
            go_wp2_with (at_builtin; refine wpList_append_own _ rfl _ _ 24 rfl Y.heap.size 32 i0 (.agg #[.int .i64 0, .int .i64 0, .int .i64 0, .int .i64 0, .int .i64 0]) 5 40 Tryd.underlying24 hi hz0 hz1 hz2 rfl (by decide) (.slice (some ⟨G, 0, none⟩) (m + 1) C) _ _ rfl (hown.alloc _) ⟨wr.heap.size, 0, none⟩ 1 1 (rowC ⟨k, 0, a, 0, 0⟩) rfl (by simp [rowC]) (cells_new _ _ _) (rowC_one _) (by unfold maxLen; omega) (by omega) (by have := hb.size; simp; omega) ?_; intro v' w6 hown' hgrow _)
            have hb6 : Below Y.heap.size Y w6 := (al hb _).grown hgrow (by have := hb.size; simp; omega) (fun q e => (hown.lt q e).1)
            obtain ⟨G', C', rfl⟩ : ∃ G' C', v' = .slice (some ⟨G', 0, none⟩) (m + 1 + 1) C' := by
              rcases hown'.2 with ⟨_, h0⟩ | ⟨G', C', cur, h, _⟩
              · omega
              · exact ⟨G', C', h⟩
            go_meet
            rw [← flat_snoc] at hown'
            exact ⟨G', C', m + 1, rfl, by omega, A ++ [⟨fr, k, pf, pt, cc⟩], by rw [List.length_append, hm, List.length_singleton], k, 0, a, 0, 0, by omega, hown', hb6, by rw [Nat.zero_add]; exact hn'⟩
        case rest =>
          obtain ⟨G', C', m', rfl, hm'k, A', hm', fr', tx', pf', pt', cc', hcc', hown', hb', HN'⟩ := hcut
          clear hown hb hnext b0 b1 e0 e1 hm hcc hGb hGl S0 D1
          have hGb : Y.heap.size ≤ G' := (hown'.lt G' rfl).1
          have hGP : Y.heap.size ≤ Y.heap.size := Nat.le_refl _
          have w1 : IntKind.i64.wrap ((m' : Int) + 1 - 1) = (m' : Int) := by rw [IntKind.wrap_i64]; omega
          have w2 : IntKind.i64.wrap ((k : Int) + 1) = (k : Int) + 1 := by rw [IntKind.wrap_i64]; omega
          have w3 : IntKind.i64.wrap ((cc' : Int) + (tn : Int)) = (cc' : Int) + (tn : Int) := by rw [IntKind.wrap_i64]; omega
          have hdd : (m' : Int) < (m' : Int) + 1 := by omega
          have keep : ∀ {X V : World}, Below Y.heap.size Y X → X.grownBy V (some G') → Below Y.heap.size Y V := fun h g => h.grown g h.size (fun q e => by injection e with e; omega)
          have f1 := hown'.frozenAt (m' * 5 + 1)
          have c1 : wc.cell? ⟨G', m' * 5 + 1, none⟩ = some (.int .i64 (tx' : Nat)) := row_cell hm' hown' (j := 1) (by omega)
          go_upto_region 12 with fail
          go_name_world X11 hX11
          obtain ⟨hO1, gr1⟩ := row_set hm' hown' (j := 1) (by omega) hX11
          have hb1 := keep hb' gr1
          clear hX11 gr1 hown' hb' f1 c1
          have b0 := (hL.below hb1).cell 0 rfl
          have e2 := D2.out hb1
          have f3 : X11.frozen? ⟨G', m' * 5 + 2 + 1, none⟩ = false := hO1.frozenAt (m' * 5 + 3)
          have c3 : X11.cell? ⟨G', m' * 5 + 2 + 1, none⟩ = some (.int .i64 (pt' : Nat)) := row_cell hm' hO1 (j := 3) (by omega)
          go_upto_region 13 with fail
          go_name_world X12 hX12
          obtain ⟨hO2, gr2⟩ := row_set hm' hO1 (j := 3) (by omega) hX12
          have hb2 := keep hb1 gr2
          clear hX12 gr2 hO1 hb1 f3 c3 b0 e2
          have b2 := (hL.below hb2).cell 2 rfl
          have e3 := T0.out hb2
          have f4 := hO2.frozenAt (m' * 5 + 4)
          have c4 : X12.cell? ⟨G', m' * 5 + 4, none⟩ = some (.int .i64 (cc' : Nat)) := row_cell hm' hO2 (j := 4) (by omega)
          have HF := Lib.hid (fun V hV => row_set (Y := V) hm' hO2 (j := 4) (u := .int .i64 ((cc' : Int) + (tn : Int))) (by omega) hV)
          go_wp2_with fail
          refine wp_region_still_tail 15 (by kernel_rfl) (by kernel_rfl) ?_
          simp only [List.take_succ_cons, List.take_zero, List.drop_succ_cons, List.drop_zero]
          iterate 15 still_step
          refine wpStill_nil ?_
          show wpList _ _ _ _ _ X12.drew
          go_wp2_with fail
          obtain ⟨hO3, gr3⟩ := HF.out _ rfl
          refine ⟨⟨k + 1, by go_num, hlt, ?_, (keep hb2 gr3).drew⟩, by simp [intOf]; omega⟩
          unfold rowsL
          rw [HN'.out, flat_snoc]
          show World.ownsRow _ _ _ _ _ (A'.length + 1) _
          rw [hm']
          exact hO3
      · obtain rfl : k = N := by omega
        have hd : decide (k < k) = false := decide_eq_false (by omega)
        have hlr : (rowsL W' T' l k).length = (rowsV W' T' l k).1.length + 1 := by unfold rowsL; rw [List.length_append, List.length_singleton]
        rw [← hlr] at hown
        go_wp2_with fail
        go_ret2
        exact ⟨_, rfl, owns_base hown hws, hBY.trans (hb.mono hws)⟩
end Go.Proofs.YticonolnagcakaaDoor

namespace Go.Proofs.YticonolnagcakaaDoor
open Go.RowKit

theorem strV_snoc (F : List Bs) (c : Bs) : strV (F ++ [c]) = strV F ++ [.string ⟨c.toArray⟩] := by simp [strV]
theorem strV_len (F : List Bs) : (strV F).length = F.length := by simp [strV]
theorem ba_app {st : ByteArray} {x y : Bs} (h : bs st = y) : (⟨x.toArray⟩ : ByteArray) ++ st = ⟨(x ++ y).toArray⟩ := by
  subst h
  obtain ⟨⟨d⟩⟩ := st
  apply ByteArray.ext
  simp [bs]
theorem bs_sp (st : ByteArray) : bs (st ++ ⟨#[32]⟩) = bs st ++ [32] := by
  obtain ⟨⟨d⟩⟩ := st
  simp [bs]
theorem str_cell {X : World} {base : Nat} {e : TypeId} {g cap m : Nat} {F : List Bs} {x : Value} (hm : F.length = m)
    (h : X.ownsRow base e 1 (.slice (some ⟨g, 0, none⟩) (m + 1) cap) (m + 1) (strV F ++ [x])) : X.cell? ⟨g, m, none⟩ = some x := by
  have h1 := h.cellAt m (by omega)
  rw [h1, List.getElem?_append_right (by rw [strV_len, hm]; exact Nat.le_refl _), strV_len, hm, Nat.sub_self]
  rfl
theorem str_set {X Y : World} {base : Nat} {e : TypeId} {g cap m : Nat} {F : List Bs} {x u : Value} (hm : F.length = m)
    (h : X.ownsRow base e 1 (.slice (some ⟨g, 0, none⟩) (m + 1) cap) (m + 1) (strV F ++ [x])) (hY : X.setCell ⟨g, m, none⟩ u = Y) :
    Y.ownsRow base e 1 (.slice (some ⟨g, 0, none⟩) (m + 1) cap) (m + 1) (strV F ++ [u]) ∧ X.grownBy Y (some g) := by
  obtain ⟨h1, h2⟩ := h.stored m u
  subst hY
  refine ⟨?_, h2⟩
  rw [List.set_append_right _ _ (by rw [strV_len, hm]; exact Nat.le_refl _), strV_len, hm, Nat.sub_self] at h1
  exact h1
theorem str_new (X : World) (t : TypeId) : (X.alloc (.cells #[.string ⟨#[]⟩] t)).ownsRow X.heap.size t 1 (.slice (some ⟨X.heap.size, 0, none⟩) 1 1) 1 [.string ⟨#[]⟩] :=
  ⟨rfl, .inr ⟨X.heap.size, 1, _, rfl, Nat.le_refl _, heap_alloc_new X _, Nat.le_refl _, (by unfold maxLen; omega), rfl, rfl⟩⟩
/-- what a character is shown as, ahead of the spaces of a tab -/
def headS (b h : Bool) (x : ByteArray) : ByteArray := if b = false then ⟨#[239, 191, 189]⟩ else if h = true then ⟨#[]⟩ else x
/-- does the loop over a tab's spaces go on? -/
def GoV (bb : Bool) (q tn r : Nat) : Prop := bb = true ↔ q < tn ∧ r = 9

set_option maxRecDepth 100000 in
set_option maxHeartbeats 8000000 in
theorem refshown_any (W T : Int) (s : ByteArray) (hs : s.size ≤ 67108864) (w : World) :
    Calls Tryd.prog 13 #[.string s, .int .i64 W, .int .i64 T] w fun e w' => ∃ v, e = .returned (.tuple #[v, .int .i64 (shownR W T (bs s)).2]) ∧
      w'.ownsRow w.heap.size 9 1 v (shownR W T (bs s)).1.length (strV (shownR W T (bs s)).1) ∧ Below w.heap.size w w' := by
  obtain ⟨i1, hi1, hy0, hy1, hy2⟩ := info_parts info_strv
  have HG := Lib.hid (fun w => refwrong28_any W T w)
  cases hg : goodV W T
  · rw [hg] at HG
    have hv : shownR W T (bs s) = ([], 280) := if_pos hg
    rw [hv]
    clear hv hg
    go_enter Tryd.func13, Tryd.ntmps13
    go_wp2_with (first | (go_at_call 28; (with_reducible refine (HG.out _).mono ?_); rintro e w2 ⟨rfl, rfl⟩))
    go_ret2
    exact ⟨_, rfl, World.ownsRow_nil _ _ _ _, Below.refl _ _⟩
  · rw [hg] at HG
    obtain ⟨W', T', rfl, rfl, hW, hW2, hT1, hT2⟩ := goodV_of hg
    have hv : shownR (W' : Nat) (T' : Nat) (bs s) = ((textsV W' T' (bs s) (countN (bs s))).1 ++ [(textsV W' T' (bs s) (countN (bs s))).2], 0) := if_neg (by rw [hg]; simp)
    have HP := Lib.hid (fun w => refput_at W' T' hW2 hT1 hT2 s hs w)
    have hle : countN (bs s) ≤ s.size := by rw [size_bs]; exact countN_le _
    rw [hv]
    obtain ⟨l, hl⟩ : ∃ l, bs s = l := ⟨_, rfl⟩
    have HL := Lib.hid hl
    have HLEN := Lib.hid (show l.length = s.size by rw [← hl, size_bs])
    rw [hl] at HP hle ⊢
    obtain ⟨N, hN⟩ : ∃ N, countN l = N := ⟨_, rfl⟩
    rw [hN] at HP hle ⊢
    have HN := Lib.hid hN
    have hN9 : N ≤ 67108864 := by omega
    have HBA := Lib.hid (fun r w => refbare_any r w)
    clear hl hN hg hT1 hT2 hv hle
    go_enter Tryd.func13, Tryd.ntmps13
    go_upto_region 4 with (first
      | (go_at_call 28; (with_reducible refine (HG.out _).mono ?_); rintro e w2 ⟨rfl, rfl⟩)
      | (go_at_call 29; (with_reducible refine (HP.out _).mono ?_); rintro e w2 ⟨a1, c1, g2, c2, a3, c3, rfl, hro1, hg2, hr2, hro3, hb2⟩))
    go_name_world Y hY
    have hL : Blk Y w2.heap.size 73 [.slice a1 N c1, .slice (some ⟨g2, 0, none⟩) (N + 1) c2, .slice a3 N c3] := by rw [← hY]; exact Blk.new w2 _ _
    have hBY : Below w.heap.size w Y := by rw [← hY]; exact al hb2 _
    have hb2Y : Below w2.heap.size w2 Y := by rw [← hY]; exact al (Below.refl _ _) _
    have hg2Y : g2 < Y.heap.size := Nat.lt_of_lt_of_le hg2 hb2Y.size
    have HS := Lib.hid (hr2.below (spotC_len _ _ _) hb2Y)
    have HC := Lib.hid (show 0 < N → ∃ g, a1 = some ⟨g, 0, none⟩ ∧ g < Y.heap.size ∧ RowAt Y g 4 N (rcC l) from fun h0 => by
      obtain ⟨g, e1, e2, e3⟩ := hro1 h0
      exact ⟨g, e1, Nat.lt_of_lt_of_le e2 hb2Y.size, e3.below (rcC_len _) hb2Y⟩)
    have HK := Lib.hid (show 0 < N → ∃ g, a3 = some ⟨g, 0, none⟩ ∧ g < Y.heap.size ∧ RowAt Y g 1 N (takeC W' T' l) from fun h0 => by
      obtain ⟨g, e1, e2, e3⟩ := hro3 h0
      exact ⟨g, e1, Nat.lt_of_lt_of_le e2 hb2Y.size, e3.below (takeC_len _ _ _) hb2Y⟩)
    have hws := hBY.size
    obtain ⟨P, hP⟩ : ∃ P, w2.heap.size = P := ⟨_, rfl⟩
    rw [hP] at hL ⊢
    clear hY hro1 hro3 hr2 hg2 hb2 hb2Y hP
    go_upto_region 5 with fail
    go_name_world Z hZ
    have hr0 : Z.ownsRow Y.heap.size 9 1 (.slice (some ⟨Y.heap.size, 0, none⟩) 1 1) 1 (strV ([] ++ [[]])) := by rw [← hZ]; exact str_new Y _
    have hYZ : Below Y.heap.size Y Z := by rw [← hZ]; exact al (Below.refl _ _) _
    clear hZ
    go_wp2_with fail
    go_loopw [9, 10] (fun v i wr => ∃ k : Nat, i = .int .i64 (k : Nat) ∧ k ≤ N ∧ wr.ownsRow Y.heap.size 9 1 v ((textsV W' T' l k).1.length + 1) (strV ((textsV W' T' l k).1 ++ [(textsV W' T' l k).2])) ∧ Below Y.heap.size Y wr) (fun _ i _ => N - (intOf i).toNat)
    case atStart => exact ⟨0, rfl, Nat.zero_le _, hr0, hYZ⟩
    case round =>
      clear hr0 hYZ
      obtain ⟨k, rfl, hk, hown, hb⟩ := hrel
      have b0 := (hL.below hb).cell 0 rfl
      by_cases hlt : k < N
      · obtain ⟨g1, rfl, hg1, hrow1⟩ := HC.out (by omega)
        obtain ⟨g3, rfl, hg3, hrow3⟩ := HK.out (by omega)
        have hki : (k : Int) < (N : Int) := by omega
        have hki2 : (k : Int) < ((N + 1 : Nat) : Int) := by omega
        obtain ⟨F, c, F1, c1', ht1, ht2, hF1, hF, hcase⟩ := texts_sum W' T' l k
        have hcb := texts_bound W' T' hW2 l k (by rw [HN.out]; exact hk)
        have hrb := st_row W' T' (tk l) k
        rw [ht1] at hown hcb
        simp only at hown hcb
        rw [strV_snoc] at hown
        obtain ⟨m, hm⟩ : ∃ m, F.length = m := ⟨_, rfl⟩
        rw [hm] at hown hF
        rw [← hF] at hrb
        have d0 := hrow1 k 0 hlt (by omega)
        have d1 := hrow1 k 1 hlt (by omega)
        have d2 := hrow1 k 2 hlt (by omega)
        have d3 := hrow1 k 3 hlt (by omega)
        have s0 := HS.out k 0 (by omega) (by omega)
        have t0 := hrow3 k 0 hlt (by omega)
        unfold rcC at d0 d1 d2 d3
        unfold spotC at s0
        unfold takeC at t0
        rw [show atV W' T' l k = spV W' T' (tk l) k from if_pos (by rw [HN.out]; exact hlt)] at s0
        obtain ⟨b, hbb⟩ : ∃ x, rightR (((tk l)[k]?.getD (0, 0)).1 : Int) ((tk l)[k]?.getD (0, 0)).2 = x := ⟨_, rfl⟩
        have hsh : shownC W' T' l k = if b = false then [239, 191, 189] else if ((tk l)[k]?.getD (0, 0)).1 = 9 then List.replicate (tkV W' T' (tk l) k) 32 else if hideV (((tk l)[k]?.getD (0, 0)).1 : Int) = true then [] else (l.drop (atN l k)).take (atN l (k + 1) - atN l k) := by
          rw [← hbb, atN_succ l k (by rw [HN.out]; exact hlt), Nat.add_sub_cancel_left]
          rfl
        have h3 := right_three l k (by rw [HN.out]; exact hlt)
        rw [hbb] at h3
        have ha12 : atN l k < atN l (k + 1) ∧ atN l (k + 1) ≤ l.length := by
          refine ⟨atN_lt l (Nat.lt_succ_self k) (by rw [HN.out]; omega), ?_⟩
          have := (cut_at l (k + 1) (by rw [HN.out]; omega)).1
          exact this
        rw [hbb] at d0 d1 d2 d3
        obtain ⟨r, hr⟩ : ∃ x, ((tk l)[k]?.getD (0, 0)).1 = x := ⟨_, rfl⟩
        obtain ⟨n, hn⟩ : ∃ x, ((tk l)[k]?.getD (0, 0)).2 = x := ⟨_, rfl⟩
        obtain ⟨a, ha⟩ : ∃ x, atN l k = x := ⟨_, rfl⟩
        obtain ⟨a2, ha2⟩ : ∃ x, atN l (k + 1) = x := ⟨_, rfl⟩
        obtain ⟨⟨sl, sc⟩, hsp⟩ : ∃ x, spV W' T' (tk l) k = x := ⟨_, rfl⟩
        obtain ⟨tn, htn⟩ : ∃ x, tkV W' T' (tk l) k = x := ⟨_, rfl⟩
        have htb : tn ≤ 1024 := by rw [← htn]; exact tkV_bound W' T' hW2 l k
        rw [hr, ha, ha2] at d0 d1 d2 d3
        rw [hsp] at s0 hF1
        rw [htn] at t0
        rw [hr, ha, ha2, htn] at hsh
        rw [hr, hn] at h3
        rw [ha, ha2] at ha12
        simp only at hF1
        have D0 : wr.cell? ⟨g1, k * 4, none⟩ = some (.int .i32 (r : Nat)) := (hb.cell (p := ⟨g1, _, none⟩) hg1).trans d0
        have D1 : wr.cell? ⟨g1, k * 4 + 1, none⟩ = some (.int .i64 (a : Nat)) := (hb.cell (p := ⟨g1, _, none⟩) hg1).trans d1
        have D2 : wr.cell? ⟨g1, k * 4 + 2, none⟩ = some (.int .i64 (a2 : Nat)) := (hb.cell (p := ⟨g1, _, none⟩) hg1).trans d2
        have D3 : wr.cell? ⟨g1, k * 4 + 3, none⟩ = some (.bool b) := (hb.cell (p := ⟨g1, _, none⟩) hg1).trans d3
        have S0 : Hid (∀ {V}, Below Y.heap.size Y V → V.cell? ⟨g2, k * 2, none⟩ = some (.int .i64 (sl : Nat))) := Lib.hid (fun hV => (hV.cell (p := ⟨g2, _, none⟩) hg2Y).trans s0)
        have T0 : Hid (∀ {V}, Below Y.heap.size Y V → V.cell? ⟨g3, k, none⟩ = some (.int .i64 (tn : Nat))) := Lib.hid (fun hV => (hV.cell (p := ⟨g3, _, none⟩) hg3).trans (by rw [← Nat.mul_one k]; exact t0))
        have hlenS := HLEN.out
        have ha2s : a2 ≤ s.size := by omega
        have haa : a ≤ a2 := by omega
        have HSH : Hid (∀ (q : Nat) (st : ByteArray), ¬ (q < tn ∧ r = 9) → q ≤ tn → (r = 9 ∨ q = 0) → bs st = bs (headS b (hideV (r : Nat)) (s.extract a a2)) ++ List.replicate q 32 → bs st = shownC W' T' l k) := by
          refine Lib.hid (fun q st h1 h2 h3' h4 => ?_)
          rw [h4]
          by_cases h9 : r = 9
          · subst h9
            have hq : q = tn := by omega
            have hbt : b = true := by rw [h3]; rfl
            subst hbt
            rw [show headS true (hideV ((9 : Nat) : Int)) (s.extract a a2) = ⟨#[]⟩ from rfl, hsh, if_neg (by simp), if_pos rfl, hq]
            rfl
          · have hq : q = 0 := by omega
            subst hq
            rw [List.replicate_zero, List.append_nil]
            cases b
            · rw [hsh, if_pos rfl]
              rfl
            · cases hh : hideV (r : Nat)
              · rw [show headS true false (s.extract a a2) = s.extract a a2 from rfl, bs_extract, HL.out, hsh, if_neg (by simp), if_neg h9, hh, if_neg (by simp)]
              · rw [show headS true true (s.extract a a2) = ⟨#[]⟩ from rfl, hsh, if_neg (by simp), if_neg h9, hh, if_pos rfl]
                first | done | rfl
        have HLB := Lib.hid (show c1'.length + (shownC W' T' l k).length ≤ 1024 * (k + 1) by
          have h := texts_bound W' T' hW2 l (k + 1) (by rw [HN.out]; exact hlt)
          rw [ht2] at h
          simpa using h)
        have HT2 := Lib.hid ht2
        have HF1 := Lib.hid hF1
        have HM := Lib.hid hm
        have hlF : (Hid (sl = m ∧ F1 = F ∧ c1' = c)) ∨ (Hid (sl = m + 1 ∧ F1 = F ++ [c] ∧ c1' = [])) := by
          rcases hcase with ⟨e1, e2⟩ | ⟨e1, e2⟩
          · exact .inl (Lib.hid ⟨by rw [← hF1, e1, hm], e1, e2⟩)
          · exact .inr (Lib.hid ⟨by rw [← hF1, e1, List.length_append, List.length_singleton, hm], e1, e2⟩)
        clear hbb hr hn ha ha2 hsp htn d0 d1 d2 d3 s0 t0 hrow1 hrow3 hsh h3 ht1 ht2 hF1 hF hcase hm ha12
        obtain ⟨G, C, hv, hGb, hGl⟩ : ∃ G C, u9 = .slice (some ⟨G, 0, none⟩) (m + 1) C ∧ Y.heap.size ≤ G ∧ G < wr.heap.size := by
          rcases hown.2 with ⟨_, h0⟩ | ⟨G, C, cur, h, hb1, hh, _⟩
          · omega
          · exact ⟨G, C, h, hb1, (Array.getElem?_eq_some_iff.1 hh).1⟩
        subst hv
        go_upto_region 9 with fail
        go_name_world X hX
        have hCC : Blk X wr.heap.size 76 [.int .i32 (r : Nat), .int .i64 (a : Nat), .int .i64 (a2 : Nat), .bool b] := by rw [← hX]; exact Blk.new wr _ _
        have hbX : Below Y.heap.size Y X := by rw [← hX]; exact al hb _
        have hO : X.ownsRow Y.heap.size 9 1 (.slice (some ⟨G, 0, none⟩) (m + 1) C) (m + 1) (strV F ++ [.string ⟨c.toArray⟩]) := by rw [← hX]; exact hown.alloc _
        have hCY : Y.heap.size ≤ wr.heap.size := hb.size
        obtain ⟨Cb, hCb⟩ : ∃ Cb, wr.heap.size = Cb := ⟨_, rfl⟩
        rw [hCb] at hCC hGl hCY ⊢
        clear hX hown hCb hb D0 D1 D2 D3 b0
        have b1 := (hL.below hbX).cell 1 rfl
        have e0 := S0.out hbX
        go_upto_if 42 with fail
        go_cut [9] from 39 to 45 (fun v wx => ∃ G' : Nat, ∃ C' : Nat, ∃ n' : Nat, v = .slice (some ⟨G', 0, none⟩) n' C' ∧ Hid (n' = sl + 1) ∧ G' ≠ Cb ∧
          wx.ownsRow Y.heap.size 9 1 (.slice (some ⟨G', 0, none⟩) n' C') n' (strV F1 ++ [.string ⟨c1'.toArray⟩]) ∧ Below Y.heap.size Y wx ∧ Blk wx Cb 76 [.int .i32 (r : Nat), .int .i64 (a : Nat), .int .i64 (a2 : Nat), .bool b])
        case first =>
          rcases hlF with h | h
          · have hne : ((sl : Int) == (m : Int) + 1) = false := beq_eq_false_iff_ne.2 (by have := h.out.1; omega)
            go_wp2_with fail
            go_meet
            refine ⟨G, C, m + 1, rfl, Lib.hid (by rw [h.out.1]), by omega, ?_, hbX, hCC⟩
            rw [h.out.2.1, h.out.2.2]
            exact hO
          · have hne : ((sl : Int) == (m : Int) + 1) = true := beq_iff_eq.2 (by have := h.out.1; omega)
            go_wp2_with (at_builtin; refine wpList_append_own _ rfl _ _ 33 rfl Y.heap.size 9 i1 (.string ⟨#[]⟩) 1 16 Tryd.underlying33 hi1 hy0 hy1 hy2 rfl (by decide) (.slice (some ⟨G, 0, none⟩) (m + 1) C) _ _ rfl (hO.alloc _) ⟨X.heap.size, 0, none⟩ 1 1 [.string ⟨#[]⟩] rfl (by simp) (cells_new _ _ _) (by intro u hu; simp at hu; subst hu; rfl) (by unfold maxLen; omega) (by omega) (by have := hbX.size; simp; omega) ?_; intro v' w6 hown' hgrow _)
            have hb6 : Below Y.heap.size Y w6 := (al hbX _).grown hgrow (by have := hbX.size; simp; omega) (fun q e => (hO.lt q e).1)
            have hC6 : Blk w6 Cb 76 [.int .i32 (r : Nat), .int .i64 (a : Nat), .int .i64 (a2 : Nat), .bool b] := (hCC.alloc _).kept hgrow (by simp [Value.ownBlock]; omega)
            obtain ⟨G', C', rfl⟩ : ∃ G' C', v' = .slice (some ⟨G', 0, none⟩) (m + 1 + 1) C' := by
              rcases hown'.2 with ⟨_, h0⟩ | ⟨G', C', cur, h, _⟩
              · omega
              · exact ⟨G', C', h⟩
            have hGC : G' ≠ Cb := fun e => by
              have := Blk.not_row hC6 (by decide) hown'
              exact this (by rw [e]; rfl)
            go_meet
            refine ⟨G', C', m + 1 + 1, rfl, Lib.hid (by rw [h.out.1]), hGC, ?_, hb6, hC6⟩
            rw [h.out.2.1, h.out.2.2, strV_snoc]
            exact hown'
        case rest =>
          obtain ⟨G', C', n', rfl, hn', hGC, hO', hbc, hCc⟩ := hcut
          obtain rfl := hn'.out
          have hslb : sl ≤ k + 1 := by rcases hlF with h | h <;> (have := h.out.1; omega)
          clear hn' hlF hO hbX hCC b1 e0 hGb hGl S0 hcb
          have k0 := hCc.cell 0 rfl
          have k1 := hCc.cell 1 rfl
          have k2 := hCc.cell 2 rfl
          have k3 := hCc.cell 3 rfl
          obtain ⟨st0, hst0⟩ : ∃ x, headS b (hideV (r : Nat)) (s.extract a a2) = x := ⟨_, rfl⟩
          rw [hst0] at HSH
          have hst9 : st0.size ≤ 67108867 := by
            rw [← hst0]
            have hx : (s.extract a a2).size ≤ s.size := by rw [ByteArray.size_extract]; omega
            unfold headS
            split
            · exact Nat.le_trans (show (3 : Nat) ≤ 67108867 by omega) (Nat.le_refl _)
            · split
              · exact Nat.zero_le _
              · omega
          have hai : (a : Int) ≤ (a2 : Int) := by omega
          have hai2 : (a2 : Int) ≤ (s.size : Int) := by omega
          have HBR := Lib.hid (fun w => HBA.out (r : Nat) w)
          go_upto_if 54 with fail
          go_cut [12] from 55 to 57 (fun v wx => wc = wx ∧ v = .string st0)
          case first =>
            cases b
            · go_wp2_with fail
              go_meet
              exact ⟨rfl, by rw [← hst0]; rfl⟩
            · cases hh : hideV (r : Nat)
              · rw [hh] at HBR
                rw [hh] at hst0
                go_wp2_with (first | (go_at_call 35; (with_reducible refine (HBR.out _).mono ?_); rintro e w4 ⟨rfl, rfl⟩))
                go_meet
                exact ⟨rfl, by rw [← hst0]; rfl⟩
              · rw [hh] at HBR
                rw [hh] at hst0
                go_wp2_with (first | (go_at_call 35; (with_reducible refine (HBR.out _).mono ?_); rintro e w4 ⟨rfl, rfl⟩))
                go_meet
                exact ⟨rfl, by rw [← hst0]; rfl⟩
          case rest =>
            obtain ⟨rfl, rfl⟩ := hcut
            clear hst0 HBR k1 k2 k3 hai hai2
            go_wp2_with fail
            go_loopw [12, 13] (fun v q wx => ∃ k2 : Nat, q = .int .i64 (k2 : Nat) ∧ k2 ≤ tn ∧ ∃ st : ByteArray, v = .string st ∧ Hid ((r = 9 ∨ k2 = 0) ∧ bs st = bs st0 ++ List.replicate k2 32) ∧ wc = wx) (fun _ q _ => tn - (intOf q).toNat)
            case atStart => exact ⟨0, rfl, Nat.zero_le _, st0, rfl, Lib.hid ⟨.inr rfl, by simp⟩, rfl⟩
            case round =>
              obtain ⟨q, rfl, hqt, st, rfl, hq, rfl⟩ := hrel
              have b2 := (hL.below hbc).cell 2 rfl
              have e3 := T0.out hbc
              have b1 := (hL.below hbc).cell 1 rfl
              go_upto_region 17 with fail
              go_cut [69] from 58 to 69 (fun v wx => wc = wx ∧ ∃ bb, v = .bool bb ∧ GoV bb q tn r)
              case first =>
                by_cases h1 : q < tn
                · by_cases h2 : r = 9
                  · subst h2
                    go_wp2_with fail
                    go_meet
                    exact ⟨rfl, true, rfl, ⟨fun _ => ⟨h1, rfl⟩, fun _ => rfl⟩⟩
                  · have h2d : ((r : Int) == 9) = false := beq_eq_false_iff_ne.2 (by omega)
                    go_wp2_with fail
                    go_meet
                    exact ⟨rfl, false, rfl, ⟨fun h => (by cases h), fun h => absurd h.2 h2⟩⟩
                · go_wp2_with fail
                  go_meet
                  exact ⟨rfl, false, rfl, ⟨fun h => (by cases h), fun h => absurd h.1 h1⟩⟩
              case rest =>
                obtain ⟨rfl, bb, rfl, hbb⟩ := hcut
                cases bb
                · have hst := HSH.out q st (fun h => by have := hbb.2 h; cases this) hqt hq.out.1 hq.out.2
                  have hsz9 : c1'.length + st.size ≤ 9223372036854775807 := by
                    have := HLB.out
                    rw [size_bs, hst]
                    omega
                  have HST := Lib.hid hst
                  have HMF := Lib.hid (show F1.length = sl from HF1.out)
                  clear hst hbb hq k0 b1 b2 e3
                  have c1c := str_cell HMF.out hO'
                  have f1c := hO'.frozenAt sl
                  have w1 : IntKind.i64.wrap ((sl : Int) + 1 - 1) = (sl : Int) := by rw [IntKind.wrap_i64]; omega
                  have hdd : (sl : Int) < (sl : Int) + 1 := by omega
                  go_wp2_with fail
                  obtain ⟨hO2, gr⟩ := str_set (u := .string (⟨c1'.toArray⟩ ++ st)) HMF.out hO' rfl
                  have hGb : Y.heap.size ≤ G' := (hO'.lt G' rfl).1
                  refine ⟨⟨k + 1, by go_num, hlt, ?_, hbc.grown gr hbc.size (fun q e => by injection e with e; omega)⟩, by simp [intOf]; omega⟩
                  rw [ba_app HST.out] at hO2 ⊢
                  rw [← strV_snoc] at hO2
                  rw [HT2.out]
                  show World.ownsRow _ _ _ _ _ (F1.length + 1) _
                  rw [HMF.out]
                  exact hO2
                · have hgo := hbb.1 rfl
                  have hq2 := hq
                  have hsz9 : st.size ≤ 67110000 := by
                    rw [size_bs, hq.out.2, List.length_append, List.length_replicate, ← size_bs]
                    omega
                  clear hbb hq k0 b1 b2 e3
                  go_wp2_with fail
                  go_roundw
                  case rel =>
                    refine ⟨q + 1, by go_num, hgo.1, st ++ ⟨#[32]⟩, rfl, Lib.hid ⟨.inl hgo.2, ?_⟩, (by first | rfl | trivial)⟩
                    rw [bs_sp, hq2.out.2, List.append_assoc, ← List.replicate_succ']
                  case measure => simp [intOf]; omega
      · obtain rfl : k = N := by omega
        have hd : decide (k < k) = false := decide_eq_false (by omega)
        go_wp2_with fail
        go_ret2
        refine ⟨_, rfl, ?_, hBY.trans (hb.mono hws)⟩
        rw [List.length_append, List.length_singleton]
        exact owns_base hown hws
end Go.Proofs.YticonolnagcakaaDoor

namespace Go.Proofs.YticonolnagcakaaDoor
open Go.RowKit

theorem eqtexts_own (L : List Bs) (hn : L.length ≤ 140737488351232) (v1 v2 : Value) (b1 b2 : Nat) (w : World) (h1 : w.ownsRow b1 9 1 v1 L.length (strV L)) (h2 : w.ownsRow b2 9 1 v2 L.length (strV L)) :
    Calls Tryd.prog 14 #[v1, v2] w fun e w' => e = .returned (.bool true) ∧ Below w.heap.size w w' := by
  have str : ∀ {b g c : Nat}, w.ownsRow b 9 1 (.slice (some ⟨g, 0, none⟩) L.length c) L.length (strV L) → StrAt w g L.length (fun k => ⟨(L[k]?.getD []).toArray⟩) := by
    intro b g c h k hk
    rw [h.cellAt k (by omega)]
    unfold strV
    rw [List.getElem?_map]
    simp [List.getElem?_eq_getElem hk]
  rcases h1.2 with ⟨e1, hz⟩ | ⟨g1, c1, cur, e1, _⟩
  · have e2 : v2 = .slice none 0 0 ∨ ∃ g c, v2 = .slice (some ⟨g, 0, none⟩) 0 c := by
      rcases h2.2 with ⟨e, _⟩ | ⟨g, c, cur, e, _⟩
      · exact .inl e
      · exact .inr ⟨g, c, by rw [e, hz]⟩
    subst e1
    clear h1 h2 str
    rcases e2 with rfl | ⟨g, c, rfl⟩
    · go_enter Tryd.func14, Tryd.ntmps14
      go_wp2_with fail
      go_loopw [5] (fun i wr => i = .int .i64 0 ∧ w = wr) (fun _ _ => 0)
      case atStart => exact ⟨rfl, rfl⟩
      case round =>
        obtain ⟨rfl, rfl⟩ := hrel
        go_wp2_with fail
        go_ret
        exact ⟨rfl, Below.refl _ _⟩
    · go_enter Tryd.func14, Tryd.ntmps14
      go_wp2_with fail
      go_loopw [5] (fun i wr => i = .int .i64 0 ∧ w = wr) (fun _ _ => 0)
      case atStart => exact ⟨rfl, rfl⟩
      case round =>
        obtain ⟨rfl, rfl⟩ := hrel
        go_wp2_with fail
        go_ret
        exact ⟨rfl, Below.refl _ _⟩
  · subst e1
    rcases h2.2 with ⟨e2, hz⟩ | ⟨g2, c2, cur, e2, _⟩
    · subst e2
      rw [hz]
      clear h1 h2 str
      go_enter Tryd.func14, Tryd.ntmps14
      go_wp2_with fail
      go_loopw [5] (fun i wr => i = .int .i64 0 ∧ w = wr) (fun _ _ => 0)
      case atStart => exact ⟨rfl, rfl⟩
      case round =>
        obtain ⟨rfl, rfl⟩ := hrel
        go_wp2_with fail
        go_ret
        exact ⟨rfl, Below.refl _ _⟩
    · subst e2
      exact eqtexts_any g1 g2 c1 c2 L.length hn _ w (str h1) (str h2)

/-- rows that are read -/
def RwAt (X : World) (ao : Option Addr) (L : List RowV) : Prop := 0 < L.length → ∃ g, ao = some ⟨g, 0, none⟩ ∧ g < X.heap.size ∧ RowAt X g 5 L.length (rowFn L)
theorem RwAt.below {X Y : World} {ao : Option Addr} {L : List RowV} (h : RwAt X ao L) (hb : Below X.heap.size X Y) : RwAt Y ao L := fun h0 => by
  obtain ⟨g, e1, e2, e3⟩ := h h0
  exact ⟨g, e1, Nat.lt_of_lt_of_le e2 hb.size, e3.below (rowFn_len L) hb⟩
theorem RwAt.of_own {X : World} {b c : Nat} {e : TypeId} {ao : Option Addr} {L : List RowV} (h : X.ownsRow b e 5 (.slice ao L.length c) L.length (L.flatMap rowC)) : RwAt X ao L := fun h0 => by
  rw [flat_rows] at h
  obtain ⟨ao', cap', e', _, ho⟩ := own_open (rowFn_len L) h
  injection e' with e1 _ _
  obtain ⟨g, h1, _, h3, h4⟩ := ho h0
  exact ⟨g, by rw [e1, h1], h3, h4⟩

set_option maxHeartbeats 2000000 in
theorem same_any (L : List RowV) (hn : L.length ≤ 140737488351232) (a1 a2 : Option Addr) (c1 c2 : Nat) (w : World) (h1 : RwAt w a1 L) (h2 : RwAt w a2 L) :
    Calls Tryd.prog 11 #[.slice a1 L.length c1, .slice a2 L.length c2] w fun e w' => e = .returned (.bool true) ∧ Below w.heap.size w w' := by
  obtain ⟨n, hL⟩ : ∃ n, L.length = n := ⟨_, rfl⟩
  have HLN := Lib.hid hL
  have H1 := Lib.hid (show 0 < n → ∃ g, a1 = some ⟨g, 0, none⟩ ∧ g < w.heap.size ∧ RowAt w g 5 n (rowFn L) from by rw [← hL]; exact h1)
  have H2 := Lib.hid (show 0 < n → ∃ g, a2 = some ⟨g, 0, none⟩ ∧ g < w.heap.size ∧ RowAt w g 5 n (rowFn L) from by rw [← hL]; exact h2)
  rw [hL] at hn ⊢
  clear h1 h2 hL
  have hnn : (((n : Nat) : Int) != (n : Int)) = false := by simp
  go_enter Tryd.func11, Tryd.ntmps11
  go_wp2_with fail
  go_loopw [5] (fun i wr => ∃ k : Nat, i = .int .i64 (k : Nat) ∧ k ≤ n ∧ Below w.heap.size w wr) (fun i _ => n - (intOf i).toNat)
  case atStart => exact ⟨0, rfl, Nat.zero_le _, Below.refl _ _⟩
  case round =>
    obtain ⟨k, rfl, hk, hb⟩ := hrel
    by_cases hlt : k < n
    · have hi : (k : Int) < (n : Int) := by omega
      obtain ⟨g1, rfl, hg1, hr1⟩ := H1.out (by omega)
      obtain ⟨g2, rfl, hg2, hr2⟩ := H2.out (by omega)
      have hq1 := hr1.below (rowFn_len L) hb
      have hq2 := hr2.below (rowFn_len L) hb
      obtain ⟨⟨fr, tx, pf, pt, co⟩, hR⟩ : ∃ x, L[k]?.getD rowZ = x := ⟨_, rfl⟩
      have hf : rowFn L k = [.int .i64 (fr : Nat), .int .i64 (tx : Nat), .int .i64 (pf : Nat), .int .i64 (pt : Nat), .int .i64 (co : Nat)] := by
        show rowC (L[k]?.getD rowZ) = _
        rw [hR]
        rfl
      have d0 := hq1 k 0 hlt (by omega)
      have d1 := hq1 k 1 hlt (by omega)
      have d2 := hq1 k 2 hlt (by omega)
      have d3 := hq1 k 3 hlt (by omega)
      have d4 := hq1 k 4 hlt (by omega)
      have e0 := hq2 k 0 hlt (by omega)
      have e1 := hq2 k 1 hlt (by omega)
      have e2 := hq2 k 2 hlt (by omega)
      have e3 := hq2 k 3 hlt (by omega)
      have e4 := hq2 k 4 hlt (by omega)
      rw [hf] at d0 d1 d2 d3 d4 e0 e1 e2 e3 e4
      replace d0 : wr.cell? ⟨g1, k * 5, none⟩ = some (.int .i64 (fr : Nat)) := d0
      replace d1 : wr.cell? ⟨g1, k * 5 + 1, none⟩ = some (.int .i64 (tx : Nat)) := d1
      replace d2 : wr.cell? ⟨g1, k * 5 + 2, none⟩ = some (.int .i64 (pf : Nat)) := d2
      replace d3 : wr.cell? ⟨g1, k * 5 + 3, none⟩ = some (.int .i64 (pt : Nat)) := d3
      replace d4 : wr.cell? ⟨g1, k * 5 + 4, none⟩ = some (.int .i64 (co : Nat)) := d4
      replace e0 : wr.cell? ⟨g2, k * 5, none⟩ = some (.int .i64 (fr : Nat)) := e0
      replace e1 : wr.cell? ⟨g2, k * 5 + 1, none⟩ = some (.int .i64 (tx : Nat)) := e1
      replace e2 : wr.cell? ⟨g2, k * 5 + 2, none⟩ = some (.int .i64 (pf : Nat)) := e2
      replace e3 : wr.cell? ⟨g2, k * 5 + 3, none⟩ = some (.int .i64 (pt : Nat)) := e3
      replace e4 : wr.cell? ⟨g2, k * 5 + 4, none⟩ = some (.int .i64 (co : Nat)) := e4
      have hes := eq_row (fr : Nat) (tx : Nat) (pf : Nat) (pt : Nat) (co : Nat) (fr : Nat) (tx : Nat) (pf : Nat) (pt : Nat) (co : Nat)
      have hgs := guard_row
      clear hq1 hq2 hr1 hr2 hR hf
      go_wp2_with fail
      go_quiet (fail)
      go_wp2_with fail
      go_roundw
      case rel => exact ⟨k + 1, by go_num, hlt, below_drewN hb _⟩
      case measure => simp [intOf]; omega
    · obtain rfl : k = n := by omega
      have hi : decide (k < k) = false := decide_eq_false (by omega)
      go_wp2_with fail
      go_ret
      exact ⟨rfl, hb⟩
end Go.Proofs.YticonolnagcakaaDoor

namespace Go.Proofs.YticonolnagcakaaDoor
open Go.RowKit

theorem grown_via {V X Y : World} {r q : Option Nat} (h : V.grownBy X r) (hq : q = r ∨ ∀ k, q = some k → V.heap.size ≤ k) (g : X.grownBy Y q) : V.grownBy Y r := by
  refine ⟨g.os.trans h.os, g.tape.trans h.tape, g.output.trans h.output, Nat.le_trans h.size g.size, fun i hi hr => ?_⟩
  refine (g.block i (Nat.lt_of_lt_of_le hi h.size) (fun e => ?_)).trans (h.block i hi hr)
  rcases hq with rfl | hq
  · exact hr e
  · have := hq i e.symm
    omega
theorem RwAt.kept {X Y : World} {ao : Option Addr} {L : List RowV} {r : Option Nat} (h : RwAt X ao L) (hg : X.grownBy Y r) (hne : 0 < L.length → ∀ g, ao = some ⟨g, 0, none⟩ → some g ≠ r) : RwAt Y ao L := fun h0 => by
  obtain ⟨g, e1, e2, e3⟩ := h h0
  exact ⟨g, e1, Nat.lt_of_lt_of_le e2 hg.size, e3.kept hg e2 (hne h0 g e1)⟩
theorem rows_bound (W T : Int) (l : Bs) : (rowsR W T l).1.length ≤ countN l + 1 := by
  unfold rowsR
  split
  · exact Nat.zero_le _
  · have := rows_len W.toNat T.toNat l (countN l)
    have := st_row W.toNat T.toNat (tk l) (countN l)
    simp only [rowsL, List.length_append, List.length_singleton]
    omega
theorem shown_bound (W T : Int) (l : Bs) : (shownR W T l).1.length ≤ countN l + 1 := by
  unfold shownR
  split
  · exact Nat.zero_le _
  · have := texts_len W.toNat T.toNat l (countN l)
    have := st_row W.toNat T.toNat (tk l) (countN l)
    simp only [List.length_append, List.length_singleton]
    omega
theorem row5_one (x : Int) : ∀ u ∈ ([.int .i64 x, .int .i64 0, .int .i64 0, .int .i64 0, .int .i64 0] : List Value), u.oneCell' = true := by
  intro u hu
  simp at hu
  rcases hu with rfl | rfl <;> rfl
theorem grown_alloc {V X : World} {r : Option Nat} (h : V.grownBy X r) (o : Obj) : V.grownBy (X.alloc o) r := by
  have b : Below X.heap.size X (X.alloc o) := al (Below.refl _ _) o
  exact ⟨b.os.trans h.os, b.tape.trans h.tape, b.output.trans h.output, Nat.le_trans h.size b.size, fun i hi hr => (b.block i (Nat.lt_of_lt_of_le hi h.size)).trans (h.block i hi hr)⟩
theorem own_some {X : World} {b n g c : Nat} {e : TypeId} {xs : List Value} (h : X.ownsRow b e 5 (.slice (some ⟨g, 0, none⟩) n c) n xs) (j : Nat) (hj : j < n * 5) : ∃ u, X.cell? ⟨g, j, none⟩ = some u := by
  have h1 := h.cellAt j hj
  have hl : j < xs.length := by rw [h.1]; exact hj
  rw [List.getElem?_eq_getElem hl] at h1
  exact ⟨_, h1⟩
theorem stored5 {X Y : World} {b n g c i0 i1 i2 i3 i4 : Nat} {e : TypeId} {xs : List Value} {x0 x1 x2 x3 x4 : Value} (h : X.ownsRow b e 5 (.slice (some ⟨g, 0, none⟩) n c) n xs)
    (hY : (((((X.setCell ⟨g, i0, none⟩ x0).setCell ⟨g, i1, none⟩ x1).setCell ⟨g, i2, none⟩ x2).setCell ⟨g, i3, none⟩ x3).setCell ⟨g, i4, none⟩ x4) = Y) : (∃ ys, Y.ownsRow b e 5 (.slice (some ⟨g, 0, none⟩) n c) n ys) ∧ X.grownBy Y (some g) := by
  subst hY
  obtain ⟨h0, k0⟩ := h.stored i0 x0
  obtain ⟨h1, k1⟩ := h0.stored i1 x1
  obtain ⟨h2, k2⟩ := h1.stored i2 x2
  obtain ⟨h3, k3⟩ := h2.stored i3 x3
  obtain ⟨h4, k4⟩ := h3.stored i4 x4
  exact ⟨⟨_, h4⟩, grown_trans k0 (grown_trans k1 (grown_trans k2 (grown_trans k3 k4)))⟩

set_option maxRecDepth 100000 in
set_option maxHeartbeats 8000000 in
theorem viewRows_any (s : ByteArray) (hs : s.size ≤ 1048576) (W T : Int) (w : World) (hT : Tabs w) :
    Calls Tryd.prog 3 #[.string s, .agg #[.int .i64 W, .int .i64 T]] w fun e w' => e = .returned (.bool true) ∧ Below w.heap.size w w' := by
  have HT := Lib.hid hT
  clear hT
  obtain ⟨i0, hi, hz0, hz1, hz2⟩ := info_parts info_row
  have HW := Lib.hid (fun w hT => vworks_any w hT)
  have HA := Lib.hid (fun w hT => vrows_any W T s (by omega) w hT)
  have HB := Lib.hid (fun w => refrows_any W T s (by omega) w)
  have HC := Lib.hid (fun w hT => vshown_any W T s (by omega) w hT)
  have HD := Lib.hid (fun w => refshown_any W T s (by omega) w)
  have hle : countN (bs s) ≤ s.size := by rw [size_bs]; exact countN_le _
  have hLb := rows_bound W T (bs s)
  have hMb := shown_bound W T (bs s)
  obtain ⟨⟨L, ec⟩, hr⟩ : ∃ x, rowsR W T (bs s) = x := ⟨_, rfl⟩
  obtain ⟨⟨M, em⟩, hm⟩ : ∃ x, shownR W T (bs s) = x := ⟨_, rfl⟩
  rw [hr] at HA HB hLb
  rw [hm] at HC HD hMb
  simp only at HA HB HC HD hLb hMb
  have hn9 : L.length ≤ 1048577 := by omega
  have hm9 : M.length ≤ 1048577 := by omega
  have HSM := Lib.hid (fun a1 a2 c1 c2 w h1 h2 => same_any L (by omega) a1 a2 c1 c2 w h1 h2)
  have HEQ := Lib.hid (fun v1 v2 b1 b2 w h1 h2 => eqtexts_own M (by omega) v1 v2 b1 b2 w h1 h2)
  have HRW := Lib.hid (fun (X : World) b c ao h => RwAt.of_own (X := X) (b := b) (c := c) (e := 32) (ao := ao) (L := L) h)
  obtain ⟨n, hn⟩ : ∃ n, L.length = n := ⟨_, rfl⟩
  have HLN := Lib.hid hn
  have hxl : (L.flatMap rowC).length = n * 5 := by rw [flat_len, hn]
  obtain ⟨xs0, hxs⟩ : ∃ x, L.flatMap rowC = x := ⟨_, rfl⟩
  rw [hn] at HA HB HSM HRW hn9
  rw [hxs] at HA HB HRW hxl
  obtain ⟨p, hp⟩ : ∃ p, M.length = p := ⟨_, rfl⟩
  rw [hp] at HC HD HEQ hm9
  have HXL := Lib.hid hxl
  clear hr hm hle hLb hMb hn hxs hp hs hxl
  go_enter Tryd.func3, Tryd.ntmps3
  go_upto_region 1 with fail
  go_name_world X hX
  have hR0 : Blk X w.heap.size 23 [.int .i64 W, .int .i64 T] := by rw [← hX]; exact Blk.new w _ _
  have hb0 : Below w.heap.size w X := by rw [← hX]; exact al (Below.refl _ _) _
  clear hX
  have v0 := hR0.cell 0 rfl
  have v1 := hR0.cell 1 rfl
  go_upto_region 2 with (first | (go_at_call 9; (with_reducible refine (HA.out _ (HT.out.below hb0 (Nat.le_refl _))).mono ?_); rintro e w1 ⟨va, rfl, hoa, hb1⟩; obtain ⟨a1, ca, rfl⟩ := own_slice hoa))
  have hR1 := hR0.below hb1
  have hB1 := nx hb0 hb1
  clear v0 v1
  have v0 := hR1.cell 0 rfl
  have v1 := hR1.cell 1 rfl
  go_upto_region 3 with (first | (go_at_call 9; (with_reducible refine (HA.out _ (HT.out.below hB1 (Nat.le_refl _))).mono ?_); rintro e w2 ⟨vb, rfl, hob, hb2⟩; obtain ⟨a2, cb, rfl⟩ := own_slice hob))
  have hR2 := hR1.below hb2
  have hB2 := nx hB1 hb2
  clear v0 v1
  have v0 := hR2.cell 0 rfl
  have v1 := hR2.cell 1 rfl
  go_upto_region 4 with (first | (go_at_call 10; (with_reducible refine (HB.out _).mono ?_); rintro e w3 ⟨vc, rfl, hoc, hb3⟩; obtain ⟨a3, cc, rfl⟩ := own_slice hoc))
  have hR3 := hR2.below hb3
  have hB3 := nx hB2 hb3
  clear v0 v1
  have hoa3 := owns_below (owns_below hoa hb2 (Nat.le_refl _)) hb3 (Nat.le_refl _)
  have hob3 := owns_below hob hb3 (Nat.le_refl _)
  have hab := hoa.lt
  have hXw := hR0.lt
  have hbl : ∀ g, a2 = some ⟨g, 0, none⟩ → w1.heap.size ≤ g := fun g e => (hob.lt g (by rw [e]; rfl)).1
  have hcl : ∀ g, a3 = some ⟨g, 0, none⟩ → w2.heap.size ≤ g := fun g e => (hoc.lt g (by rw [e]; rfl)).1
  have h01 := hb1.size
  have h12 := hb2.size
  have h23 := hb3.size
  have RA := HRW.out _ _ _ _ hoa3
  have RB := HRW.out _ _ _ _ hob3
  have RC := HRW.out _ _ _ _ hoc
  have S1 := Lib.hid (HSM.out a1 a3 ca cc w3 RA RC)
  have HAB := Lib.hid (And.intro hab (And.intro hbl hcl))
  clear hoa hob hoc hR0 hR1 hR2 hab hbl hcl hb0 hb1 hb2 hb3 RA
  go_upto_region 6 with (first
    | (go_at_call 11; (with_reducible refine S1.out.mono ?_); rintro e w4 ⟨rfl, hb4⟩; have S2 := Lib.hid (HSM.out a2 a3 cb cc w4 (RB.below hb4) (RC.below hb4)))
    | (go_at_call 11; (with_reducible refine S2.out.mono ?_); rintro e w5 ⟨rfl, hb5⟩))
  have hB5 := nx (nx hB3 hb4) hb5
  have hR5 := (hR3.below hb4).below hb5
  have HRB := Lib.hid ((RB.below hb4).below hb5)
  have HRC := Lib.hid ((RC.below hb4).below hb5)
  have hoa5 := owns_below (owns_below hoa3 hb4 (Nat.le_refl _)) hb5 (Nat.le_refl _)
  have h34 := hb4.size
  have h45 := hb5.size
  obtain ⟨r1, hr1⟩ : ∃ r, (Value.slice a1 n ca).ownBlock = r := ⟨_, rfl⟩
  have HR1 := Lib.hid hr1
  have HAB1 := HAB.out.1
  rw [hr1] at HAB1
  have HQ := Lib.hid HAB1
  clear hr1 HAB1 RB RC hoa3 hob3 hR3 hB3 hb4 hb5
  go_wp2_with fail
  go_loopw [11] (fun i wr => ∃ k : Nat, i = .int .i64 (k : Nat) ∧ k ≤ n ∧ ∃ xs, wr.ownsRow X.heap.size 32 5 (.slice a1 n ca) n xs ∧ w5.grownBy wr r1) (fun i _ => n - (intOf i).toNat)
  case atStart => exact ⟨0, rfl, Nat.zero_le _, _, hoa5, ⟨rfl, rfl, rfl, Nat.le_refl _, fun _ _ _ => rfl⟩⟩
  case round =>
    clear hoa5
    obtain ⟨k, rfl, hk, xs, hown, hgr⟩ := hrel
    by_cases hlt : k < n
    · obtain ⟨ga, rfl⟩ : ∃ g, a1 = some ⟨g, 0, none⟩ := by
        rcases hown.2 with ⟨_, h0⟩ | ⟨g, cap, cur, h, _⟩
        · omega
        · injection h with h _ _
          exact ⟨g, h⟩
      have hki : (k : Int) < (n : Int) := by omega
      obtain ⟨u0, d0⟩ := own_some hown (k * 5) (by omega)
      obtain ⟨u1, d1⟩ := own_some hown (k * 5 + 1) (by omega)
      obtain ⟨u2, d2⟩ := own_some hown (k * 5 + 2) (by omega)
      obtain ⟨u3, d3⟩ := own_some hown (k * 5 + 3) (by omega)
      obtain ⟨u4, d4⟩ := own_some hown (k * 5 + 4) (by omega)
      have f0 := hown.frozenAt (k * 5)
      have f1 := hown.frozenAt (k * 5 + 1)
      have f2 := hown.frozenAt (k * 5 + 2)
      have f3 := hown.frozenAt (k * 5 + 3)
      have f4 := hown.frozenAt (k * 5 + 4)
      have ST := Lib.hid (fun Y i0 i1 i2 i3 i4 x0 x1 x2 x3 x4 hY => stored5 (Y := Y) (i0 := i0) (i1 := i1) (i2 := i2) (i3 := i3) (i4 := i4) (x0 := x0) (x1 := x1) (x2 := x2) (x3 := x3) (x4 := x4) hown hY)
      go_wp2_with fail
      obtain ⟨⟨ys, hy⟩, gy⟩ := ST.out _ _ _ _ _ _ _ _ _ _ _ rfl
      have hR1' := HR1.out
      exact ⟨⟨k + 1, by go_num, hlt, ys, hy, grown_via hgr (.inl (by rw [← hR1']; rfl)) gy⟩, by simp [intOf]; omega⟩
    · obtain rfl : k = n := by omega
      have hd : decide (k < k) = false := decide_eq_false (by omega)
      go_wp2_with fail
      go_loopw [5, 12] (fun v i wq => ∃ q : Nat, i = .int .i64 (q : Nat) ∧ q ≤ 30 ∧ ∃ xs, wq.ownsRow X.heap.size 32 5 v (k + q) xs ∧ w5.grownBy wq r1 ∧ Hid (v.ownBlock = r1 ∨ ∀ j, v.ownBlock = some j → w5.heap.size ≤ j)) (fun _ i _ => 30 - (intOf i).toNat)
      case atStart => exact ⟨0, rfl, by omega, xs, hown, hgr, Lib.hid (.inl HR1.out)⟩
      case round =>
        clear hown hgr
        obtain ⟨q, rfl, hq, ys, hown, hgr, hv⟩ := hrel
        have h5r := hgr.size
        by_cases hlt : q < 30
        · have hqi : (q : Int) < 30 := by omega
          go_wp2_with (at_builtin; refine wpList_append_lies _ rfl _ _ _ rfl X.heap.size 32 i0 (.agg #[.int .i64 0, .int .i64 0, .int .i64 0, .int .i64 0, .int .i64 0]) 5 40 Tryd.underlying24 hi hz0 hz1 hz2 rfl (by decide) u5 _ _ (by rfl) (hown.alloc (.cells #[.int .i64 (-8), .int .i64 0, .int .i64 0, .int .i64 0, .int .i64 0] 32)) ⟨wr.heap.size, 0, none⟩ 1 1 [.int .i64 (-8), .int .i64 0, .int .i64 0, .int .i64 0, .int .i64 0] (by rfl) (by simp) (cells_new wr _ _) (row5_one (-8)) (by decide) (by unfold maxLen; omega) (by omega) (by rw [World.size_alloc]; omega) _ rfl ?_; intro g6 c6 w6 r6 r7 r8 _; have R6 := Lib.hid (And.intro r6 (And.intro r7 r8)); clear r6 r7 r8)
          obtain ⟨r6, r7, r8⟩ := R6.out
          refine ⟨⟨q + 1, by go_num, hlt, _, r6, grown_via (grown_alloc hgr _) ?_ r7, Lib.hid ?_⟩, by simp [intOf]; omega⟩
          · exact hv.out
          · rcases r8 with e | e
            · rcases hv.out with h | h
              · exact .inl (by rw [← h, e]; rfl)
              · refine .inr (fun j hj => ?_)
                exact h j (by rw [e, ← hj]; rfl)
            · refine .inr (fun j hj => ?_)
              have hj' : some g6 = some j := hj
              injection hj' with hj'
              rw [World.size_alloc] at e
              omega
        · obtain rfl : q = 30 := by omega
          have hbR : Below w.heap.size w wr := hB5.grown hgr hB5.size (fun j e => by have := (HQ.out j e).1; omega)
          have hRr := hR5.kept hgr (fun e => by have := (HQ.out _ e.symm).1; omega)
          have RB := HRB.out.kept hgr (fun _ g e e2 => by have := (HQ.out _ e2.symm).2; have := HAB.out.2.1 g e; omega)
          have RC := HRC.out.kept hgr (fun _ g e e2 => by have := (HQ.out _ e2.symm).2; have := HAB.out.2.2 g e; omega)
          have S3 := Lib.hid (HSM.out a2 a3 cb cc wr RB RC)
          clear hown hgr hv RB RC
          have hqd : decide ((30 : Int) < 30) = false := rfl
          go_upto_region 16 with (first | (go_at_call 11; (with_reducible refine S3.out.mono ?_); rintro e w6 ⟨rfl, hb6⟩))
          have hR6 := hRr.below hb6
          have hB6 := nx hbR hb6
          have v0 := hR6.cell 0 rfl
          have v1 := hR6.cell 1 rfl
          clear hRr hbR hb6
          go_upto_region 17 with (first | (go_at_call 12; (with_reducible refine (HC.out _ (HT.out.below hB6 (Nat.le_refl _))).mono ?_); rintro e w7 ⟨vs, rfl, hos, hb7⟩))
          have hR7 := hR6.below hb7
          have hB7 := nx hB6 hb7
          clear v0 v1
          have v0 := hR7.cell 0 rfl
          have v1 := hR7.cell 1 rfl
          go_upto_region 18 with (first | (go_at_call 12; (with_reducible refine (HC.out _ (HT.out.below hB7 (Nat.le_refl _))).mono ?_); rintro e w8 ⟨vt, rfl, hot, hb8⟩))
          have hR8 := hR7.below hb8
          have hB8 := nx hB7 hb8
          clear v0 v1
          have v0 := hR8.cell 0 rfl
          have v1 := hR8.cell 1 rfl
          go_upto_region 19 with (first | (go_at_call 13; (with_reducible refine (HD.out _).mono ?_); rintro e w9 ⟨vx, rfl, hox, hb9⟩))
          have hB9 := nx hB8 hb9
          have os9 := owns_below (owns_below hos hb8 (Nat.le_refl _)) hb9 (Nat.le_refl _)
          have ot9 := owns_below hot hb9 (Nat.le_refl _)
          have OS := Lib.hid os9
          have OT := Lib.hid ot9
          have OX := Lib.hid hox
          have E1 := Lib.hid (HEQ.out _ _ _ _ w9 os9 hox)
          have hsv := (HRow.of_own hos).lt
          have htv := (HRow.of_own hot).lt
          have HNE := Lib.hid (show ∀ g, vs.ownBlock = some g → vt.ownBlock ≠ some g from fun g e1 e2 => by have := (hsv g e1).2; have := (htv g e2).1; omega)
          have h67 := hb7.size
          have h89 := hb8.size
          have hBs : w.heap.size ≤ w6.heap.size := hB6.size
          clear v0 v1 hos hot hox os9 ot9 hb7 hb8 hb9 hR6 hR7 hR8 hsv htv
          obtain ⟨as1, cs1, rfl⟩ := own_slice OS.out
          obtain ⟨at1, ct, rfl⟩ := own_slice OT.out
          obtain ⟨ax, cx, rfl⟩ := own_slice OX.out
          go_wp2_with (first
            | (go_at_call 14; (with_reducible refine E1.out.mono ?_); rintro e wa ⟨rfl, hba⟩; have hBa := nx hB9 hba; have E2 := Lib.hid (HEQ.out _ _ _ _ wa (owns_below OT.out hba (Nat.le_refl _)) (owns_below OX.out hba (Nat.le_refl _))))
            | (go_at_call 14; (with_reducible refine E2.out.mono ?_); rintro e wb ⟨rfl, hbb⟩; have hBb := nx hBa hbb; have HAP := Lib.hid (apart_two p (by omega) _ _ _ _ w.heap.size wb hBb.size ((HRow.of_own (owns_below (owns_below OS.out hba (Nat.le_refl _)) hbb (Nat.le_refl _))).lower hBs) ((HRow.of_own (owns_below (owns_below OT.out hba (Nat.le_refl _)) hbb (Nat.le_refl _))).lower (Nat.le_trans hBs h67)) HNE.out))
            | (go_at_call 15; (with_reducible refine HAP.out.mono ?_); rintro e wf ⟨rfl, hbf⟩; have hBf := hBb.trans hbf)
            | (go_at_call 16; (with_reducible refine (HW.out _ (HT.out.below hBf (Nat.le_refl _))).mono ?_); rintro e wg ⟨rfl, hbg⟩))
          go_ret
          exact ⟨rfl, nx hBf hbg⟩
end Go.Proofs.YticonolnagcakaaDoor
