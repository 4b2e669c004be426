/-
  The walk of the law UtfSeam: what is cut is told at the seam.
-/
import Derived.Test.YtnfjohlbpbonhaaDoorJoinSrc
import Derived.Deep.RegionWith
import Derived.Deep.RegionHeld3
import Derived.Deep.DeepCutAuto
namespace Go.Proofs.YtnfjohlbpbonhaaDoor
open Go.RowKit

set_option maxRecDepth 100000 in
set_option maxHeartbeats 8000000 in
theorem utfSeam_any (a : ByteArray) (ha : a.size ≤ 1048576) (b : ByteArray) (hbz : b.size ≤ 1048576) (w : World) (hT : Tabs w) :
    Calls Tryd.prog 7 #[.string a, .string b] w fun e w' => e = .returned (.bool true) ∧ Below w.heap.size w w' := by
  have HT := Lib.hid hT
  clear hT
  have hsab : (a ++ b).size = a.size + b.size := by simp [ByteArray.size_append]
  have hple := pend_le (bs a)
  have hcb := closN_bounds (pendP (bs a)) (bs b)
  rw [← size_bs] at hple hcb
  have hCF := fun h => closed_facts (a := bs a) (b := bs b) h
  have hOR := fun h => open_runes (a := bs a) (b := bs b) h
  have hn0 : pendN (bs a) = 0 → closK (bs a) (bs b) = 0 := by
    intro e
    by_cases h : closK (bs a) (bs b) = 0
    · exact h
    · exact absurd e (hCF h).2.2.2.2.2.2.2.2
  have hab : bs (a ++ b) = bs a ++ bs b := bs_append a b
  have hlA := runesZ_len (bs a)
  have hlB := runesZ_len (bs b)
  have hcA := countN_le (bs a)
  have hcB := countN_le (bs b)
  rw [← size_bs] at hcA hcB
  have hpe : bs (a.extract (a.size - pendN (bs a)) a.size) = pendP (bs a) := by
    rw [bs_drop, size_bs]; rfl
  have hpsz : (a.extract (a.size - pendN (bs a)) a.size).size = pendN (bs a) := by rw [size_bs, hpe, pendP_len]
  obtain ⟨n, hn⟩ : ∃ n, pendN (bs a) = n := ⟨_, rfl⟩
  obtain ⟨c, hc⟩ : ∃ c, closK (bs a) (bs b) = c := ⟨_, rfl⟩
  have hcN : closN (pendP (bs a)) (bs b) = c := hc
  obtain ⟨Ca, hCa⟩ : ∃ n, countN (bs a) = n := ⟨_, rfl⟩
  obtain ⟨Cb, hCb⟩ : ∃ n, countN (bs b) = n := ⟨_, rfl⟩
  obtain ⟨zl, hzl⟩ : ∃ z, runesZ (bs a) = z := ⟨_, rfl⟩
  obtain ⟨zr, hzr⟩ : ∃ z, runesZ (bs b) = z := ⟨_, rfl⟩
  obtain ⟨zw, hzw⟩ : ∃ z, runesZ (bs a ++ bs b) = z := ⟨_, rfl⟩
  obtain ⟨Cw, hCw⟩ : ∃ z, zw.length = z := ⟨_, rfl⟩
  have hCwm : Cw ≤ 2097152 := by
    rw [← hCw, ← hzw, runesZ_len]
    refine Nat.le_trans (countN_le _) ?_
    rw [List.length_append, ← size_bs, ← size_bs]; omega
  rw [hn] at hpe hpsz hn0 hple
  rw [hc] at hn0
  rw [hcN] at hcb
  rw [hCa, hzl] at hlA
  rw [hCb, hzr] at hlB
  rw [hCa] at hcA
  rw [hCb] at hcB
  rw [hn, hc, hCa, hCb, hzl, hzr, hzw, hlA] at hCF
  rw [hc, hzl, hzr, hzw] at hOR
  have HPE := Lib.hid (pending_at a (by omega) n hn)
  have HCL := Lib.hid (closes_at (a.extract (a.size - n) a.size) b (by omega) (by omega) c (by rw [hpe]; exact hcN))
  have HRW := Lib.hid (runes_src (a ++ b) (by omega) zw Cw (by rw [hab]; exact hzw) hCw)
  have HRA := Lib.hid (runes_src a (by omega) zl Ca hzl hlA)
  have HRB := Lib.hid (runes_src b (by omega) zr Cb hzr hlB)
  have HCA := Lib.hid (count_at a (by omega) Ca hCa)
  have HCB := Lib.hid (count_at b (by omega) Cb hCb)
  have HLA := Lib.hid hlA
  have HLB := Lib.hid hlB
  have HCW := Lib.hid hCw
  have HPX := Lib.hid hpe
  have HPZ := Lib.hid hpsz
  have HCF := Lib.hid hCF
  have HOR := Lib.hid hOR
  have HSAB := Lib.hid hsab
  clear hab hlA hlB hpe hpsz hn hc hcN hCa hCb hzl hzr hzw hCw hCF hOR hsab
  have hb := Below.refl w.heap.size w
  by_cases hc0 : c = 0
  · obtain rfl := hc0
    clear hn0
    go_enter Tryd.func7, Tryd.ntmps7
    go_wp2_with (first | (go_at_call 30; (with_reducible refine (awake_any _ (HT.out.below hb (Nat.le_refl _))).mono ?_); rintro e w' ⟨rfl, hb'⟩; have hb := nx hb hb'; clear hb') | (go_at_call 24; (with_reducible refine (HPE.out _ (HT.out.below hb (Nat.le_refl _))).mono ?_); rintro e w' ⟨rfl, hb'⟩; have hb := nx hb hb'; clear hb') | (go_at_call 28; (with_reducible refine (HCL.out _ (HT.out.below hb (Nat.le_refl _))).mono ?_); rintro e w' ⟨rfl, hb'⟩; have hb := nx hb hb'; clear hb'))
    all_goals
      (with_reducible refine (HRW.out _).mono ?_)
      rintro e w1 ⟨wo, wcp, rfl, hsw, hwc, hwx, hwm, hb1⟩
      have hb := nx hb hb1
      have HSW := Lib.hid hsw
      clear hb1 hsw hwx
      go_wp2_with fail
      (with_reducible refine (HRA.out _).mono ?_)
      rintro e w2 ⟨lo, lc, rfl, hsl, hlc, hlx, hlm, hb2⟩
      have hb := nx hb hb2
      have HSW := Lib.hid (HSW.out.below hb2 (Nat.le_refl _))
      have HSL := Lib.hid hsl
      have HLX := Lib.hid hlx
      clear hb2 hsl hlx
      go_wp2_with fail
      (with_reducible refine (HRB.out _).mono ?_)
      rintro e w3 ⟨ro, rc, rfl, hsr, hrc, hrx, hrm, hb3⟩
      have hbw := nx hb hb3
      have HSW := Lib.hid (HSW.out.below hb3 (Nat.le_refl _))
      have HSL := Lib.hid (HSL.out.below hb3 (Nat.le_refl _))
      have HSR := Lib.hid hsr
      have HRX := Lib.hid hrx
      clear hb3 hsr hrx hb
      have hb := Below.refl w3.heap.size w3
      go_wp2_with (first | (go_at_call 19; (with_reducible refine (HCA.out _).mono ?_); rintro e w' ⟨rfl, hb'⟩; have hb := nx hb hb'; clear hb') | (go_at_call 19; (with_reducible refine (HCB.out _).mono ?_); rintro e w' ⟨rfl, hb'⟩; have hb := nx hb hb'; clear hb'))
      (with_reducible refine (join_at lo ro lc rc Ca Cb zl zr HLA.out HLB.out (by omega) (by omega) _ (HSL.out.below hb (Nat.le_refl _)) (HSR.out.below hb (Nat.le_refl _))).mono ?_)
      rintro e w4 ⟨vo, vc, rfl, hsv, hvc, hvm, hb4⟩
      have hb := nx hb hb4
      have HSV := Lib.hid hsv
      clear hsv hb4
      go_wp2_with fail
      (with_reducible refine (same_at wo vo wcp vc Cw (Ca + Cb) zw (zl ++ zr) HCW.out (by rw [List.length_append, HLA.out, HLB.out]) (by omega) (HOR.out trivial) _ (HSW.out.below hb (Nat.le_refl _)) HSV.out).mono ?_)
      rintro e w5 ⟨rfl, hb5⟩
      have hb := nx hb hb5
      clear hb5
      go_wp2
      go_ret
      exact ⟨rfl, nx hbw hb⟩
  · have HF := HCF.out hc0
    obtain ⟨f1, f2, f3, f4, f5, f6, f7, f8, f9⟩ := HF
    have hnn : ((n : Int) == 0) = false := beq_eq_false_iff_ne.2 (by omega)
    have hcc : ((c : Int) == 0) = false := beq_eq_false_iff_ne.2 (by omega)
    have hc3 : c ≤ 3 ∧ c ≤ b.size := hcb
    have hsum : n + c ≤ 4 := by rw [← f2]; exact (fW_le f1).2
    obtain ⟨p, hp⟩ : ∃ p, a.extract (a.size - n) a.size = p := ⟨_, rfl⟩
    obtain ⟨q, hq⟩ : ∃ q, b.extract 0 c = q := ⟨_, rfl⟩
    have hbp : bs p = pendP (bs a) := by rw [← hp]; exact HPX.out
    have hbq : bs q = (bs b).take c := by rw [← hq]; exact bs_take b c
    have hps : p.size = n := by rw [← hp]; exact HPZ.out
    have hqs : q.size = c := by rw [size_bs, hbq, List.length_take, ← size_bs]; omega
    have hpq : bs (p ++ q) = pendP (bs a) ++ (bs b).take c := by rw [bs_append, hbp, hbq]
    obtain ⟨r, hr⟩ : ∃ r, fR (pendP (bs a) ++ (bs b).take c) = r := ⟨_, rfl⟩
    rw [hr] at f5 f6
    rw [hp] at HCL
    have hF := fun w hT => first_any (p ++ q) w hT
    rw [hpq, hr, f1, f2] at hF
    have HFI := Lib.hid hF
    have HCP := Lib.hid (count_at p (by omega) n (by rw [hbp]; exact f3))
    have HCQ := Lib.hid (count_at q (by omega) c (by rw [hbq]; exact f4))
    have hrb : -2147483648 ≤ r ∧ r ≤ 2147483647 := by
      rw [← hr]; unfold fR
      have h1 := Lib.decodeL_rune (pendP (bs a) ++ (bs b).take c)
      split <;> omega
    have HEN := Lib.hid (encode_one r hrb (p ++ q) (by rw [encS_one r _ f5, ← hpq]))
    have hps3 : p.size ≤ 3 := by omega
    have hqs3 : q.size ≤ 3 := by omega
    have hqx3 : (b.extract 0 c).size ≤ 3 := by rw [hq]; exact hqs3
    have HP := Lib.hid hp
    have HQ := Lib.hid hq
    have HW := Lib.hid f6
    clear hF f1 f2 f3 f4 f5 f6 hbp hbq hps hqs hpq hr hp hq hn0
    go_enter Tryd.func7, Tryd.ntmps7
    go_wp2_with (first | (go_at_call 30; (with_reducible refine (awake_any _ (HT.out.below hb (Nat.le_refl _))).mono ?_); rintro e w' ⟨rfl, hb'⟩; have hb := nx hb hb'; clear hb') | (go_at_call 24; (with_reducible refine (HPE.out _ (HT.out.below hb (Nat.le_refl _))).mono ?_); rintro e w' ⟨rfl, hb'⟩; have hb := nx hb hb'; clear hb'))
    rw [HP.out]
    go_wp2_with (first | (go_at_call 28; (with_reducible refine (HCL.out _ (HT.out.below hb (Nat.le_refl _))).mono ?_); rintro e w' ⟨rfl, hb'⟩; have hb := nx hb hb'; clear hb'))
    all_goals
      (with_reducible refine (HRW.out _).mono ?_)
      rintro e w1 ⟨wo, wcp, rfl, hsw, hwc, hwx, hwm, hb1⟩
      have hb := nx hb hb1
      have HSW := Lib.hid hsw
      clear hb1 hsw hwx
      go_wp2_with fail
      (with_reducible refine (HRA.out _).mono ?_)
      rintro e w2 ⟨lo, lc, rfl, hsl, hlc, hlx, hlm, hb2⟩
      have hb := nx hb hb2
      have HSW := Lib.hid (HSW.out.below hb2 (Nat.le_refl _))
      have HSL := Lib.hid hsl
      have HLX := Lib.hid hlx
      clear hb2 hsl hlx
      go_wp2_with fail
      (with_reducible refine (HRB.out _).mono ?_)
      rintro e w3 ⟨ro, rc, rfl, hsr, hrc, hrx, hrm, hb3⟩
      have hbw := nx hb hb3
      have HSW := Lib.hid (HSW.out.below hb3 (Nat.le_refl _))
      have HSL := Lib.hid (HSL.out.below hb3 (Nat.le_refl _))
      have HSR := Lib.hid hsr
      have HRX := Lib.hid hrx
      clear hb3 hsr hrx hb
      have hb := Below.refl w3.heap.size w3
      go_wp2_with (first | (go_at_call 19; (with_reducible refine (HCA.out _).mono ?_); rintro e w' ⟨rfl, hb'⟩; have hb := nx hb hb'; clear hb') | (go_at_call 19; (with_reducible refine (HCB.out _).mono ?_); rintro e w' ⟨rfl, hb'⟩; have hb := nx hb hb'; clear hb'))
      rw [HQ.out]
      (with_reducible refine (HFI.out _ (HT.out.below (nx hbw hb) (Nat.le_refl _))).mono ?_)
      rintro e w4 ⟨rfl, hb4⟩
      have hb := nx hb hb4
      clear hb4
      go_upto_region 19 with fail
      go_cut [145] from 112 to 145 (fun cc wx => cc = .bool false ∧ Below w3.heap.size w3 wx)
      case first =>
        rw [← HQ.out] at HCQ HEN
        have hwr : IntKind.i64.wrap ((n : Int) + (c : Int)) = (n : Int) + (c : Int) := by rw [IntKind.wrap_i64]; omega
        have hcat : ¬ (9223372036854775807 < p.size + (b.extract 0 c).size) := by omega
        have hcat2 : ¬ (9223372036854775807 < p.size + min c b.size) := by omega
        have hcat3 : ¬ (9223372036854775807 < p.size + c) := by omega
        have hbw := hb
        clear hb
        have hb := Below.refl w4.heap.size w4
        go_region_held3 (fun w' => Below w4.heap.size w4 w') (first | assumption | exact nx (by assumption) (by assumption) | exact al (by assumption) _ | exact below_drewN (by assumption) _)
          (first | (go_at_call 19; (with_reducible refine (HCP.out _).mono ?_); rintro e w' ⟨rfl, hb'⟩) | (go_at_call 19; (with_reducible refine (HCQ.out _).mono ?_); rintro e w' ⟨rfl, hb'⟩) | (go_at_call 32; (with_reducible refine (HEN.out _).mono ?_); rintro e w' ⟨rfl, hb'⟩))
        all_goals go_wp2_with fail
        all_goals go_meet
        all_goals exact ⟨rfl, nx hbw (by assumption)⟩
      case rest =>
        obtain ⟨rfl, hb⟩ := hcut
        rcases HRX.out with ⟨gr, rfl, _, _⟩ | ⟨_, h0, _⟩
        rotate_left
        · omega
        rcases HLX.out with ⟨gl, rfl, _, _⟩ | ⟨_, h0, _⟩
        rotate_left
        · omega
        have hta : (zl.take (Ca - n)).length = Ca - n := by rw [List.length_take, HLA.out]; omega
        have hdr : (zr.drop c).length = Cb - c := by rw [List.length_drop, HLB.out]
        have hs0 : (0 : Int) ≤ (Ca : Int) - (n : Int) := by omega
        have hs1 : (Ca : Int) - (n : Int) ≤ (lc : Int) := by omega
        have hs2 : (0 : Int) ≤ (c : Int) := by omega
        have hs3 : (c : Int) ≤ (Cb : Int) := by omega
        have hs4 : (Cb : Int) ≤ (rc : Int) := by omega
        have hle1 : Ca - n ≤ 1099511627776 := by omega
        have hle2 : 1 ≤ 1099511627776 := by omega
        have hw1 : IntKind.i64.wrap ((Ca : Int) - (n : Int)) = (Ca : Int) - (n : Int) := by rw [IntKind.wrap_i64]; omega
        go_wp2_with fail
        have hl2 : (zl.take (Ca - n) ++ [r]).length = Ca - n + 1 := by rw [List.length_append, hta]; rfl
        have hle3 : Ca - n + 1 ≤ 1099511627776 := by omega
        have hle4 : Cb - c ≤ 1099511627776 := by omega
        have hCw140 : Cw ≤ 140737488351232 := by omega
        by_cases hrcc : rc = c
        · have hrcc2 : c = rc := hrcc.symm
          have hcbc : Cb = c := by omega
          have hnil : zr.drop c = [] := List.length_eq_zero_iff.1 (by rw [hdr]; omega)
          have hlw : (zl.take (Ca - n) ++ [r] ++ []).length = Ca - n + 1 := by rw [List.append_nil, hl2]
          have HW2 := Lib.hid (show zw = zl.take (Ca - n) ++ [r] ++ [] by rw [HW.out, hnil])
          have HRD := Lib.hid (show SrcI w3 .i32 (some ⟨gr, 0, none⟩) 0 [] from .inr ⟨_, rfl, fun j u hj => by simp at hj⟩)
          clear hcbc hnil hrcc HW
          subst hrcc2
          go_region_with (first
            | (go_at_call 31; have hbd := (al hb (.cells #[.int .i32 r] 21)).drew; (with_reducible refine (join_at (some ⟨gl, 0, none⟩) (some ⟨wc.heap.size, 0, none⟩) lc 1 (Ca - n) 1 (zl.take (Ca - n)) [r] hta rfl hle1 hle2 _ ((HSL.out.take _).below hbd (Nat.le_refl _)) ((src_new _ _ _ _ _).below (Below.refl _ _).drew (Nat.le_refl _))).mono ?_); rintro e w' ⟨v1, vc1, rfl, hsv, hv1, hv2, hb'⟩; have hbn := nx hbd hb'; have HSV1 := Lib.hid hsv; clear hsv hb' hbd)
            | (go_at_call 31; (with_reducible refine (join_at v1 (some ⟨gr, 0, none⟩) vc1 0 (Ca - n + 1) 0 (zl.take (Ca - n) ++ [r]) [] hl2 rfl hle3 (by decide) _ HSV1.out (HRD.out.below hbn (Nat.le_refl _))).mono ?_); rintro e w2' ⟨v2, vc2, rfl, hsv2, hv3, hv4, hb2'⟩; have hbm := nx hbn hb2'; have HSV2 := Lib.hid hsv2; clear hsv2 hb2')
            | (go_at_call 21; (with_reducible refine (same_at wo v2 wcp vc2 Cw (Ca - n + 1) zw _ HCW.out hlw hCw140 HW2.out _ (HSW.out.below hbm (Nat.le_refl _)) HSV2.out).mono ?_); rintro e w3' ⟨rfl, hb3'⟩; have hbo := nx hbm hb3'; clear hb3'))
          go_wp2_with fail
          go_ret
          exact ⟨rfl, nx hbw hbo⟩
        · have hlw : (zl.take (Ca - n) ++ [r] ++ zr.drop c).length = Ca - n + 1 + (Cb - c) := by rw [List.length_append, hl2, hdr]
          have HRD := Lib.hid (show SrcI w3 .i32 (some ⟨gr, c, none⟩) (rc - c) (zr.drop c) by have := SrcI.drop (c2 := rc - c) HSR.out c; rwa [Nat.zero_add] at this)
          go_region_with (first
            | (go_at_call 31; have hbd := (al hb (.cells #[.int .i32 r] 21)).drew; (with_reducible refine (join_at (some ⟨gl, 0, none⟩) (some ⟨wc.heap.size, 0, none⟩) lc 1 (Ca - n) 1 (zl.take (Ca - n)) [r] hta rfl hle1 hle2 _ ((HSL.out.take _).below hbd (Nat.le_refl _)) ((src_new _ _ _ _ _).below (Below.refl _ _).drew (Nat.le_refl _))).mono ?_); rintro e w' ⟨v1, vc1, rfl, hsv, hv1, hv2, hb'⟩; have hbn := nx hbd hb'; have HSV1 := Lib.hid hsv; clear hsv hb' hbd)
            | (go_at_call 31; (with_reducible refine (join_at v1 (some ⟨gr, c, none⟩) vc1 (rc - c) (Ca - n + 1) (Cb - c) (zl.take (Ca - n) ++ [r]) (zr.drop c) hl2 hdr hle3 hle4 _ HSV1.out (HRD.out.below hbn (Nat.le_refl _))).mono ?_); rintro e w2' ⟨v2, vc2, rfl, hsv2, hv3, hv4, hb2'⟩; have hbm := nx hbn hb2'; have HSV2 := Lib.hid hsv2; clear hsv2 hb2')
            | (go_at_call 21; (with_reducible refine (same_at wo v2 wcp vc2 Cw (Ca - n + 1 + (Cb - c)) zw _ HCW.out hlw hCw140 HW.out _ (HSW.out.below hbm (Nat.le_refl _)) HSV2.out).mono ?_); rintro e w3' ⟨rfl, hb3'⟩; have hbo := nx hbm hb3'; clear hb3'))
          go_wp2_with fail
          go_ret
          exact ⟨rfl, nx hbw hbo⟩
end Go.Proofs.YtnfjohlbpbonhaaDoor
