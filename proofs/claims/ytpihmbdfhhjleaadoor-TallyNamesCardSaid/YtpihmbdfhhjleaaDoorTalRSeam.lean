/-
  The contracts of the document's Check and Seam.
-/
import Derived.Test.YtpihmbdfhhjleaaDoorTalMay
namespace Go.Proofs.YtpihmbdfhhjleaaDoor
open Go.RowKit

theorem rcheck_fit {b c l : Int} {h t : ByteArray} (F : Fit b c l h t) (o : Bool) (ho : okB b c l (bs h) (bs t) = o) (w : World) :
    Calls Tryd.prog 15 #[.agg #[.int .i64 b, .int .i64 c, .int .i64 l, .string h, .string t]] w fun e w' => e = .returned (.int .i64 (if o = true then 0 else 30)) ∧ Below w.heap.size w w' := by
  have HM := Lib.hid (tmay_any b c l h t F o ho)
  have hb := (Below.refl w.heap.size w).alloc (Nat.le_refl _) (.cells #[.int .i64 b, .int .i64 c, .int .i64 l, .string h, .string t] 23)
  clear ho F
  cases o
  all_goals
    go_enter Tryd.func15, Tryd.ntmps15
    go_wp2_with fail
    (with_reducible refine (HM.out _).mono ?_)
    rintro e w1 ⟨rfl, hb1⟩
    have hb := nx hb hb1
    clear hb1
    go_wp2_with fail
    go_ret
    exact ⟨rfl, hb⟩

set_option maxHeartbeats 2000000 in
theorem RSeam_any (b c l : Int) (h t : ByteArray) (b' c' l' : Int) (h' t' : ByteArray) (F : Fit b c l h t) (F' : Fit b' c' l' h' t') (o o' : Bool) (ho : okB b c l (bs h) (bs t) = o) (ho' : okB b' c' l' (bs h') (bs t') = o')
    (C L : Int) (hC : seamC (bs t) (bs h') = C) (hL : seamL (bs t) (bs h') = L) (w : World) :
    Calls Tryd.prog 17 #[.agg #[.int .i64 b, .int .i64 c, .int .i64 l, .string h, .string t], .agg #[.int .i64 b', .int .i64 c', .int .i64 l', .string h', .string t']] w fun e w' =>
      e = .returned (if (o && o') = true then .tuple #[.int .i64 C, .int .i64 L, .int .i64 0] else .tuple #[.int .i64 0, .int .i64 0, .int .i64 30]) ∧ Below w.heap.size w w' := by
  have HK := Lib.hid (tmay_any b c l h t F o ho)
  have HK' := Lib.hid (tmay_any b' c' l' h' t' F' o' ho')
  obtain ⟨x1, x2, hb⟩ := boxes_new w b c l h t b' c' l' h' t'
  have X1 := Lib.hid x1
  have X2 := Lib.hid x2
  clear x1 x2
  cases o
  · clear hC hL ho ho' F F'
    go_enter Tryd.func17, Tryd.ntmps17
    go_wp2_with fail
    (with_reducible refine (HK.out _).mono ?_)
    rintro e w1 ⟨rfl, hb1⟩
    have hb := nx hb hb1
    clear hb1
    go_wp2_with fail
    go_ret3
    exact ⟨rfl, hb⟩
  · cases o'
    · clear hC hL ho ho' F F'
      go_enter Tryd.func17, Tryd.ntmps17
      go_wp2_with fail
      (with_reducible refine (HK.out _).mono ?_)
      rintro e w1 ⟨rfl, hb1⟩
      have hb := nx hb hb1
      have X1 := Lib.hid (X1.out.keep hb1)
      have X2 := Lib.hid (X2.out.keep hb1)
      clear hb1
      obtain ⟨y0, y1, y2, y3, y4⟩ := X2.out
      go_wp2_with fail
      (with_reducible refine (HK'.out _).mono ?_)
      rintro e w2 ⟨rfl, hb2⟩
      have hb := nx hb hb2
      clear hb2
      go_wp2_with fail
      go_ret3
      exact ⟨rfl, hb⟩
    · have ft := okB_facts ho
      have ft' := okB_facts ho'
      have hts : t.size ≤ 3 := by rw [size_bs]; omega
      have hhs : h'.size ≤ 3 := by rw [size_bs]; omega
      clear ho ho' F F' ft ft'
      have hple := pend_le (bs t)
      rw [← size_bs] at hple
      have hpx : bs (t.extract (t.size - pendN (bs t)) t.size) = pendP (bs t) := by
        rw [bs_drop, size_bs]; rfl
      obtain ⟨n, hn⟩ : ∃ n, pendN (bs t) = n := ⟨_, rfl⟩
      rw [hn] at hpx hple
      have HP := Lib.hid (fun w => (hn ▸ refpending_any t (by omega) w))
      have hxc := seam_x_chars (bs t) (bs h')
      have hxl := seam_x_lines (bs t) (bs h')
      rw [hC] at hxc
      rw [hL] at hxl
      obtain ⟨x, hx⟩ : ∃ x : ByteArray, bs x = xOf (bs t) := ⟨sB (xOf (bs t)), bs_sB _⟩
      rw [← hx] at hxc hxl
      have hxs : x.size ≤ 3 := by
        rw [size_bs, hx]; unfold xOf
        split
        · simp
        · rw [pendP_len, hn]; omega
      have hsz : (x ++ h').size = x.size + h'.size := by simp [ByteArray.size_append]
      have k1 := counts_any (x ++ h') (by omega)
      have k2 := counts_any x (by omega)
      have k3 := counts_any h' (by omega)
      rw [bs_append] at k1
      have z1 := countN_le (bs x ++ bs h')
      have z2 := linN_le (bs x ++ bs h')
      have z3 := countN_le (bs x)
      have z4 := linN_le (bs x)
      have z5 := countN_le (bs h')
      have z6 := linN_le (bs h')
      rw [List.length_append, ← size_bs, ← size_bs] at z1
      rw [← size_bs] at z3 z5
      obtain ⟨n1, e1⟩ : ∃ n, countN (bs x ++ bs h') = n := ⟨_, rfl⟩
      obtain ⟨n2, e2⟩ : ∃ n, linN (bs x ++ bs h') = n := ⟨_, rfl⟩
      obtain ⟨n3, e3⟩ : ∃ n, countN (bs x) = n := ⟨_, rfl⟩
      obtain ⟨n4, e4⟩ : ∃ n, linN (bs x) = n := ⟨_, rfl⟩
      obtain ⟨n5, e5⟩ : ∃ n, countN (bs h') = n := ⟨_, rfl⟩
      obtain ⟨n6, e6⟩ : ∃ n, linN (bs h') = n := ⟨_, rfl⟩
      rw [e1, e2] at k1
      rw [e3, e4] at k2
      rw [e5, e6] at k3
      rw [e1, e3, e5] at hxc
      rw [e2, e4, e6] at hxl
      rw [e1] at z1 z2
      rw [e2] at z2
      rw [e3] at z3 z4
      rw [e4] at z4
      rw [e5] at z5 z6
      rw [e6] at z6
      clear e1 e2 e3 e4 e5 e6 hC hL hsz
      have K1 := Lib.hid k1
      have K2 := Lib.hid k2
      have K3 := Lib.hid k3
      clear k1 k2 k3
      have hcat : ¬ (9223372036854775807 < x.size + h'.size) := by omega
      have hd0 : (n == 0) = decide (n = 0) := rfl
      have X := Lib.hid hx
      have HN := Lib.hid hn
      have HPX := Lib.hid hpx
      obtain rfl := hxc
      obtain rfl := hxl
      clear hx hn hpx hd0
      by_cases hcr : n = 0 ∧ crE (bs t) = true
      · have hxe : x = ⟨#[13]⟩ := by
          have := X.out
          unfold xOf at this
          rw [if_pos ⟨by rw [HN.out]; exact hcr.1, hcr.2⟩] at this
          rw [← sB_bs x, this]; rfl
        have hA2 := of_decide_eq_true hcr.2
        rw [← size_bs] at hA2
        have hsub : t.size - 1 < t.size := by omega
        have hg := get_bs t (t.size - 1) hsub
        rw [hA2.2] at hg
        have ht1 : (0 : Int) < (t.size : Int) := by omega
        have hn0 := hcr.1
        clear hcr
        subst hn0
        subst hxe
        go_enter Tryd.func17, Tryd.ntmps17
        go_wp2_with fail
        (with_reducible refine (HK.out _).mono ?_)
        rintro e w1 ⟨rfl, hb1⟩
        have hb := nx hb hb1
        have X1 := Lib.hid (X1.out.keep hb1)
        have X2 := Lib.hid (X2.out.keep hb1)
        clear hb1
        obtain ⟨y0, y1, y2, y3, y4⟩ := X2.out
        go_wp2_with fail
        (with_reducible refine (HK'.out _).mono ?_)
        rintro e w2 ⟨rfl, hb2⟩
        have hb := nx hb hb2
        have X1 := Lib.hid (X1.out.keep hb2)
        have X2 := Lib.hid (X2.out.keep hb2)
        clear hb2 y0 y1 y2 y3 y4
        obtain ⟨x0, x1, x2, x3, x4⟩ := X1.out
        go_wp2_with fail
        (with_reducible refine (HP.out _).mono ?_)
        rintro e w3 ⟨rfl, hb3⟩
        have hb := nx hb hb3
        have X1 := Lib.hid (X1.out.keep hb3)
        have X2 := Lib.hid (X2.out.keep hb3)
        clear hb3 x0 x1 x2 x3 x4
        obtain ⟨x0, x1, x2, x3, x4⟩ := X1.out
        obtain ⟨y0, y1, y2, y3, y4⟩ := X2.out
        go_wp2_with fail
        (with_reducible refine (K1.out _).mono ?_)
        rintro e w4 ⟨rfl, hb4⟩
        have hb := nx hb hb4
        have X2 := Lib.hid (X2.out.keep hb4)
        clear hb4
        go_wp2_with fail
        (with_reducible refine (K2.out _).mono ?_)
        rintro e w5 ⟨rfl, hb5⟩
        have hb := nx hb hb5
        have X2 := Lib.hid (X2.out.keep hb5)
        clear hb5 y0 y1 y2 y3 y4
        obtain ⟨y0, y1, y2, y3, y4⟩ := X2.out
        go_wp2_with fail
        (with_reducible refine (K3.out _).mono ?_)
        rintro e w6 ⟨rfl, hb6⟩
        have hb := nx hb hb6
        clear hb6
        go_wp2_with fail
        go_ret3
        exact ⟨rfl, hb⟩
      · have hxe : x = t.extract (t.size - n) t.size := by
          have := X.out
          unfold xOf at this
          rw [if_neg (by rw [HN.out]; exact hcr), ← HPX.out] at this
          rw [← sB_bs x, this, sB_bs]
        by_cases hn0 : n = 0
        · have hx0 : x = ByteArray.empty := by
            have h1 := X.out
            unfold xOf at h1
            rw [if_neg (by rw [HN.out]; exact hcr), pendP_nil (by rw [HN.out]; exact hn0)] at h1
            rw [← sB_bs x, h1]; rfl
          clear hxe
          subst hx0
          have he0 : ByteArray.empty ++ h' = h' := by rw [← sB_bs (ByteArray.empty ++ h'), bs_append]; exact sB_bs h'
          rw [he0] at K1
          clear he0
          have hcr2 : ¬ crE (bs t) = true := fun e => hcr ⟨hn0, e⟩
          clear hcr
          by_cases ht1 : 1 ≤ t.size
          · have hsub : t.size - 1 < t.size := by omega
            have hg := get_bs t (t.size - 1) hsub
            have hx : ¬ by' (bs t) (t.size - 1) = 13 := fun e => hcr2 (by unfold crE; rw [← size_bs]; exact decide_eq_true ⟨ht1, e⟩)
            obtain ⟨z, hzz⟩ : ∃ x, by' (bs t) (t.size - 1) = x := ⟨_, rfl⟩
            rw [hzz] at hg hx
            have hxb : ((z : Int) == 13) = false := beq_eq_false_iff_ne.2 (by omega)
            have ht2 : (0 : Int) < (t.size : Int) := by omega
            clear hcr2 hx hzz
            subst hn0
            go_enter Tryd.func17, Tryd.ntmps17
            go_wp2_with fail
            (with_reducible refine (HK.out _).mono ?_)
            rintro e w1 ⟨rfl, hb1⟩
            have hb := nx hb hb1
            have X1 := Lib.hid (X1.out.keep hb1)
            have X2 := Lib.hid (X2.out.keep hb1)
            clear hb1
            obtain ⟨y0, y1, y2, y3, y4⟩ := X2.out
            go_wp2_with fail
            (with_reducible refine (HK'.out _).mono ?_)
            rintro e w2 ⟨rfl, hb2⟩
            have hb := nx hb hb2
            have X1 := Lib.hid (X1.out.keep hb2)
            have X2 := Lib.hid (X2.out.keep hb2)
            clear hb2 y0 y1 y2 y3 y4
            obtain ⟨x0, x1, x2, x3, x4⟩ := X1.out
            go_wp2_with fail
            (with_reducible refine (HP.out _).mono ?_)
            rintro e w3 ⟨rfl, hb3⟩
            have hb := nx hb hb3
            have X1 := Lib.hid (X1.out.keep hb3)
            have X2 := Lib.hid (X2.out.keep hb3)
            clear hb3 x0 x1 x2 x3 x4
            obtain ⟨x0, x1, x2, x3, x4⟩ := X1.out
            obtain ⟨y0, y1, y2, y3, y4⟩ := X2.out
            go_wp2_with fail
            (with_reducible refine (K1.out _).mono ?_)
            rintro e w4 ⟨rfl, hb4⟩
            have hb := nx hb hb4
            have X2 := Lib.hid (X2.out.keep hb4)
            clear hb4
            go_wp2_with fail
            (with_reducible refine (K2.out _).mono ?_)
            rintro e w5 ⟨rfl, hb5⟩
            have hb := nx hb hb5
            have X2 := Lib.hid (X2.out.keep hb5)
            clear hb5 y0 y1 y2 y3 y4
            obtain ⟨y0, y1, y2, y3, y4⟩ := X2.out
            go_wp2_with fail
            (with_reducible refine (K3.out _).mono ?_)
            rintro e w6 ⟨rfl, hb6⟩
            have hb := nx hb hb6
            clear hb6
            go_wp2_with fail
            go_ret3
            exact ⟨rfl, hb⟩
          · have ht2 : decide ((0 : Int) < (t.size : Int)) = false := decide_eq_false (by omega)
            have ht3 : decide (0 < t.size) = false := decide_eq_false (by omega)
            clear hcr2 ht1
            subst hn0
            go_enter Tryd.func17, Tryd.ntmps17
            go_wp2_with fail
            (with_reducible refine (HK.out _).mono ?_)
            rintro e w1 ⟨rfl, hb1⟩
            have hb := nx hb hb1
            have X1 := Lib.hid (X1.out.keep hb1)
            have X2 := Lib.hid (X2.out.keep hb1)
            clear hb1
            obtain ⟨y0, y1, y2, y3, y4⟩ := X2.out
            go_wp2_with fail
            (with_reducible refine (HK'.out _).mono ?_)
            rintro e w2 ⟨rfl, hb2⟩
            have hb := nx hb hb2
            have X1 := Lib.hid (X1.out.keep hb2)
            have X2 := Lib.hid (X2.out.keep hb2)
            clear hb2 y0 y1 y2 y3 y4
            obtain ⟨x0, x1, x2, x3, x4⟩ := X1.out
            go_wp2_with fail
            (with_reducible refine (HP.out _).mono ?_)
            rintro e w3 ⟨rfl, hb3⟩
            have hb := nx hb hb3
            have X1 := Lib.hid (X1.out.keep hb3)
            have X2 := Lib.hid (X2.out.keep hb3)
            clear hb3 x0 x1 x2 x3 x4
            obtain ⟨x0, x1, x2, x3, x4⟩ := X1.out
            obtain ⟨y0, y1, y2, y3, y4⟩ := X2.out
            go_wp2_with fail
            (with_reducible refine (K1.out _).mono ?_)
            rintro e w4 ⟨rfl, hb4⟩
            have hb := nx hb hb4
            have X2 := Lib.hid (X2.out.keep hb4)
            clear hb4
            go_wp2_with fail
            (with_reducible refine (K2.out _).mono ?_)
            rintro e w5 ⟨rfl, hb5⟩
            have hb := nx hb hb5
            have X2 := Lib.hid (X2.out.keep hb5)
            clear hb5 y0 y1 y2 y3 y4
            obtain ⟨y0, y1, y2, y3, y4⟩ := X2.out
            go_wp2_with fail
            (with_reducible refine (K3.out _).mono ?_)
            rintro e w6 ⟨rfl, hb6⟩
            have hb := nx hb hb6
            clear hb6
            go_wp2_with fail
            go_ret3
            exact ⟨rfl, hb⟩
        · have hq : ((n : Int) == 0) = false := beq_eq_false_iff_ne.2 (by omega)
          clear hcr hn0
          subst hxe
          go_enter Tryd.func17, Tryd.ntmps17
          go_wp2_with fail
          (with_reducible refine (HK.out _).mono ?_)
          rintro e w1 ⟨rfl, hb1⟩
          have hb := nx hb hb1
          have X1 := Lib.hid (X1.out.keep hb1)
          have X2 := Lib.hid (X2.out.keep hb1)
          clear hb1
          obtain ⟨y0, y1, y2, y3, y4⟩ := X2.out
          go_wp2_with fail
          (with_reducible refine (HK'.out _).mono ?_)
          rintro e w2 ⟨rfl, hb2⟩
          have hb := nx hb hb2
          have X1 := Lib.hid (X1.out.keep hb2)
          have X2 := Lib.hid (X2.out.keep hb2)
          clear hb2 y0 y1 y2 y3 y4
          obtain ⟨x0, x1, x2, x3, x4⟩ := X1.out
          go_wp2_with fail
          (with_reducible refine (HP.out _).mono ?_)
          rintro e w3 ⟨rfl, hb3⟩
          have hb := nx hb hb3
          have X1 := Lib.hid (X1.out.keep hb3)
          have X2 := Lib.hid (X2.out.keep hb3)
          clear hb3 x0 x1 x2 x3 x4
          obtain ⟨x0, x1, x2, x3, x4⟩ := X1.out
          obtain ⟨y0, y1, y2, y3, y4⟩ := X2.out
          go_wp2_with fail
          (with_reducible refine (K1.out _).mono ?_)
          rintro e w4 ⟨rfl, hb4⟩
          have hb := nx hb hb4
          have X2 := Lib.hid (X2.out.keep hb4)
          clear hb4
          go_wp2_with fail
          (with_reducible refine (K2.out _).mono ?_)
          rintro e w5 ⟨rfl, hb5⟩
          have hb := nx hb hb5
          have X2 := Lib.hid (X2.out.keep hb5)
          clear hb5 y0 y1 y2 y3 y4
          obtain ⟨y0, y1, y2, y3, y4⟩ := X2.out
          go_wp2_with fail
          (with_reducible refine (K3.out _).mono ?_)
          rintro e w6 ⟨rfl, hb6⟩
          have hb := nx hb hb6
          clear hb6
          go_wp2_with fail
          go_ret3
          exact ⟨rfl, hb⟩
end Go.Proofs.YtpihmbdfhhjleaaDoor
