/-
  The contracts of seam and Seam.
-/
import Derived.Test.YtpihmbdfhhjleaaDoorTalCheck
namespace Go.Proofs.YtpihmbdfhhjleaaDoor
open Go.RowKit

theorem seamC_zero {a b : Bs} (h : closK a b = 0) : seamC a b = 0 := if_pos h
theorem seamL_zero {a b : Bs} (h : closK a b = 0) : seamL a b = if crE a = true ∧ lfB b = true then -1 else 0 := if_pos h
theorem seamC_ne {a b : Bs} (h : closK a b ≠ 0) : seamC a b = 1 - pendN a - closK a b := if_neg h
theorem seamL_ne {a b : Bs} (h : closK a b ≠ 0) : seamL a b = if sepZ (fR (pendP a ++ b.take (closK a b))) = true then 1 else 0 := by
  unfold seamL
  rw [if_neg h, seam_rune h, sepZ_nat]

set_option maxHeartbeats 1000000 in
theorem seam_any (t h : ByteArray) (ht : t.size ≤ 140737488351232) (hh : h.size ≤ 140737488351232) (C L : Int) (hC : seamC (bs t) (bs h) = C) (hL : seamL (bs t) (bs h) = L) (w : World) (hT : Tabs w) :
    Calls Tryd.prog 35 #[.string t, .string h] w fun e w' => e = .returned (.tuple #[.int .i64 C, .int .i64 L]) ∧ Below w.heap.size w w' := by
  have HT := Lib.hid hT
  clear hT
  have hb := Below.refl w.heap.size w
  have hple := pend_le (bs t)
  have hcb := closN_bounds (pendP (bs t)) (bs h)
  rw [← size_bs] at hple hcb
  have hpe : bs (t.extract (t.size - pendN (bs t)) t.size) = pendP (bs t) := by
    rw [bs_drop, size_bs]; rfl
  have hpsz : (t.extract (t.size - pendN (bs t)) t.size).size = pendN (bs t) := by rw [size_bs, hpe, pendP_len]
  have h0C := fun e => seamC_zero (a := bs t) (b := bs h) e
  have h0L := fun e => seamL_zero (a := bs t) (b := bs h) e
  have h1C := fun e => seamC_ne (a := bs t) (b := bs h) e
  have h1L := fun e => seamL_ne (a := bs t) (b := bs h) e
  have hcl := fun e => (closK_proper (a := bs t) (b := bs h) e).2.1
  have hw4 := fun e => (closK_proper (a := bs t) (b := bs h) e).2.2
  rw [hC] at h0C h1C
  rw [hL] at h0L h1L
  obtain ⟨n, hn⟩ : ∃ n, pendN (bs t) = n := ⟨_, rfl⟩
  obtain ⟨c, hc⟩ : ∃ c, closK (bs t) (bs h) = c := ⟨_, rfl⟩
  have hcN : closN (pendP (bs t)) (bs h) = c := hc
  rw [hn] at hpe hpsz hple h1C hw4
  rw [hcN] at hcb
  rw [hc] at h0C h0L h1C h1L hcl hw4
  have hsum : c ≠ 0 → n + c ≤ 4 := fun e => by rw [← hw4 e]; exact (fW_le (hcl e)).2
  clear hcl hw4
  have HPE := Lib.hid (pending_at t ht n hn)
  have HCL := Lib.hid (closes_at (t.extract (t.size - n) t.size) h (by omega) hh c (by rw [hpe]; exact hcN))
  have hfi := fun w hT => first_any (t.extract (t.size - n) t.size ++ h.extract 0 c) w hT
  rw [bs_append, hpe, bs_take] at hfi
  obtain ⟨r, hr⟩ : ∃ r, fR (pendP (bs t) ++ (bs h).take c) = r := ⟨_, rfl⟩
  obtain ⟨fw, hfw⟩ : ∃ r, fW (pendP (bs t) ++ (bs h).take c) = r := ⟨_, rfl⟩
  obtain ⟨fb, hfb⟩ : ∃ r, fB (pendP (bs t) ++ (bs h).take c) = r := ⟨_, rfl⟩
  rw [hr, hfw, hfb] at hfi
  rw [hr] at h1L
  have HFI := Lib.hid hfi
  have HSE := Lib.hid (separates_any r)
  have H0C := Lib.hid h0C
  have H0L := Lib.hid h0L
  have H1C := Lib.hid h1C
  have H1L := Lib.hid h1L
  clear hfi hr hfw hfb hn hc hcN hpe hpsz h0C h0L h1C h1L hC hL
  by_cases hc0 : c = 0
  · have hz := H0C.out hc0
    have hz2 := H0L.out hc0
    have HZ := Lib.hid hz
    clear hz
    by_cases hA : crE (bs t) = true
    · have hA2 := of_decide_eq_true hA
      rw [← size_bs] at hA2
      have hsub : t.size - 1 < t.size := by omega
      have hg := get_bs t (t.size - 1) hsub
      rw [hA2.2] at hg
      have ht1 : (0 : Int) < (t.size : Int) := by omega
      by_cases hB : lfB (bs h) = true
      · have hB2 := of_decide_eq_true hB
        rw [← size_bs] at hB2
        have hsub2 : 0 < h.size := by omega
        have hg2 := get_bs h 0 hsub2
        rw [hB2.2] at hg2
        have hh1 : (0 : Int) < (h.size : Int) := by omega
        rw [if_pos ⟨hA, hB⟩] at hz2
        have HZ2 := Lib.hid hz2
        clear hz2 hA hB hA2 hB2
        subst hc0
        go_enter Tryd.func35, Tryd.ntmps35
        go_wp2_with (first | (go_at_call 42; (with_reducible refine (HPE.out _ (HT.out.below hb (Nat.le_refl _))).mono ?_); rintro e w' ⟨rfl, hb'⟩; have hb := nx hb hb'; clear hb') | (go_at_call 43; (with_reducible refine (HCL.out _ (HT.out.below hb (Nat.le_refl _))).mono ?_); rintro e w' ⟨rfl, hb'⟩; have hb := nx hb hb'; clear hb'))
        go_ret2
        rw [HZ.out, HZ2.out]
        exact ⟨rfl, hb⟩
      · rw [if_neg (fun e => hB e.2)] at hz2
        have HZ2 := Lib.hid hz2
        clear hz2 hA hA2
        subst hc0
        by_cases hh1 : 1 ≤ h.size
        · have hg2 := get_bs h 0 (by omega)
          have hx : ¬ by' (bs h) 0 = 10 := fun e => hB (by unfold lfB; rw [← size_bs]; exact decide_eq_true ⟨hh1, e⟩)
          obtain ⟨x, hxx⟩ : ∃ x, by' (bs h) 0 = x := ⟨_, rfl⟩
          rw [hxx] at hg2 hx
          have hxb : ((x : Int) == 10) = false := beq_eq_false_iff_ne.2 (by omega)
          have hh2 : (0 : Int) < (h.size : Int) := by omega
          clear hB hx hxx
          go_enter Tryd.func35, Tryd.ntmps35
          go_wp2_with (first | (go_at_call 42; (with_reducible refine (HPE.out _ (HT.out.below hb (Nat.le_refl _))).mono ?_); rintro e w' ⟨rfl, hb'⟩; have hb := nx hb hb'; clear hb') | (go_at_call 43; (with_reducible refine (HCL.out _ (HT.out.below hb (Nat.le_refl _))).mono ?_); rintro e w' ⟨rfl, hb'⟩; have hb := nx hb hb'; clear hb'))
          go_ret2
          rw [HZ.out, HZ2.out]
          exact ⟨rfl, hb⟩
        · have hh2 : decide ((0 : Int) < (h.size : Int)) = false := decide_eq_false (by omega)
          have hh3 : h.size = 0 := by omega
          clear hB
          go_enter Tryd.func35, Tryd.ntmps35
          go_wp2_with (first | (go_at_call 42; (with_reducible refine (HPE.out _ (HT.out.below hb (Nat.le_refl _))).mono ?_); rintro e w' ⟨rfl, hb'⟩; have hb := nx hb hb'; clear hb') | (go_at_call 43; (with_reducible refine (HCL.out _ (HT.out.below hb (Nat.le_refl _))).mono ?_); rintro e w' ⟨rfl, hb'⟩; have hb := nx hb hb'; clear hb'))
          go_ret2
          rw [HZ.out, HZ2.out]
          exact ⟨rfl, hb⟩
    · rw [if_neg (fun e => hA e.1)] at hz2
      have HZ2 := Lib.hid hz2
      clear hz2
      subst hc0
      by_cases ht1 : 1 ≤ t.size
      · have hsub : t.size - 1 < t.size := by omega
        have hg := get_bs t (t.size - 1) hsub
        have hx : ¬ by' (bs t) (t.size - 1) = 13 := fun e => hA (by unfold crE; rw [← size_bs]; exact decide_eq_true ⟨ht1, e⟩)
        obtain ⟨x, hxx⟩ : ∃ x, by' (bs t) (t.size - 1) = x := ⟨_, rfl⟩
        rw [hxx] at hg hx
        have hxb : ((x : Int) == 13) = false := beq_eq_false_iff_ne.2 (by omega)
        have ht2 : (0 : Int) < (t.size : Int) := by omega
        clear hA hx hxx
        by_cases hh1 : 1 ≤ h.size
        · have hh2 : (0 : Int) < (h.size : Int) := by omega
          go_enter Tryd.func35, Tryd.ntmps35
          go_wp2_with (first | (go_at_call 42; (with_reducible refine (HPE.out _ (HT.out.below hb (Nat.le_refl _))).mono ?_); rintro e w' ⟨rfl, hb'⟩; have hb := nx hb hb'; clear hb') | (go_at_call 43; (with_reducible refine (HCL.out _ (HT.out.below hb (Nat.le_refl _))).mono ?_); rintro e w' ⟨rfl, hb'⟩; have hb := nx hb hb'; clear hb'))
          go_ret2
          rw [HZ.out, HZ2.out]
          exact ⟨rfl, hb⟩
        · have hh3 : h.size = 0 := by omega
          go_enter Tryd.func35, Tryd.ntmps35
          go_wp2_with (first | (go_at_call 42; (with_reducible refine (HPE.out _ (HT.out.below hb (Nat.le_refl _))).mono ?_); rintro e w' ⟨rfl, hb'⟩; have hb := nx hb hb'; clear hb') | (go_at_call 43; (with_reducible refine (HCL.out _ (HT.out.below hb (Nat.le_refl _))).mono ?_); rintro e w' ⟨rfl, hb'⟩; have hb := nx hb hb'; clear hb'))
          go_ret2
          rw [HZ.out, HZ2.out]
          exact ⟨rfl, hb⟩
      · have ht3 : decide ((0 : Int) < (t.size : Int)) = false := decide_eq_false (by omega)
        have ht4 : decide (0 < t.size) = false := decide_eq_false (by omega)
        clear hA ht1
        go_enter Tryd.func35, Tryd.ntmps35
        go_wp2_with (first | (go_at_call 42; (with_reducible refine (HPE.out _ (HT.out.below hb (Nat.le_refl _))).mono ?_); rintro e w' ⟨rfl, hb'⟩; have hb := nx hb hb'; clear hb') | (go_at_call 43; (with_reducible refine (HCL.out _ (HT.out.below hb (Nat.le_refl _))).mono ?_); rintro e w' ⟨rfl, hb'⟩; have hb := nx hb hb'; clear hb'))
        go_ret2
        rw [HZ.out, HZ2.out]
        exact ⟨rfl, hb⟩
  · have hsum := hsum hc0
    have hz := H1C.out hc0
    have hz2 := H1L.out hc0
    have hcp : (0 : Int) < (c : Int) := by omega
    have hps3 : (t.extract (t.size - n) t.size).size ≤ 3 := by rw [size_bs, bs_drop, List.length_drop, ← size_bs]; omega
    have hqs3 : (h.extract 0 c).size ≤ 3 := by rw [size_bs, bs_take, List.length_take, ← size_bs]; omega
    have HZ := Lib.hid hz
    have HZ2 := Lib.hid hz2
    clear hc0 hz hz2
    cases hs : sepZ r
    · have HZ3 := Lib.hid (show L = 0 by rw [HZ2.out, hs]; rfl)
      rw [hs] at HSE
      clear hs HZ2
      go_enter Tryd.func35, Tryd.ntmps35
      go_wp2_with (first | (go_at_call 42; (with_reducible refine (HPE.out _ (HT.out.below hb (Nat.le_refl _))).mono ?_); rintro e w' ⟨rfl, hb'⟩; have hb := nx hb hb'; clear hb') | (go_at_call 43; (with_reducible refine (HCL.out _ (HT.out.below hb (Nat.le_refl _))).mono ?_); rintro e w' ⟨rfl, hb'⟩; have hb := nx hb hb'; clear hb') | (go_at_call 44; (with_reducible refine (HFI.out _ (HT.out.below hb (Nat.le_refl _))).mono ?_); rintro e w' ⟨rfl, hb'⟩; have hb := nx hb hb'; clear hb') | (go_at_call 30; (with_reducible refine (HSE.out _).mono ?_); rintro e w9 ⟨rfl, rfl⟩))
      go_ret2
      rw [HZ.out, HZ3.out]
      exact ⟨rfl, hb⟩
    · have HZ3 := Lib.hid (show L = 1 by rw [HZ2.out, hs]; rfl)
      rw [hs] at HSE
      clear hs HZ2
      go_enter Tryd.func35, Tryd.ntmps35
      go_wp2_with (first | (go_at_call 42; (with_reducible refine (HPE.out _ (HT.out.below hb (Nat.le_refl _))).mono ?_); rintro e w' ⟨rfl, hb'⟩; have hb := nx hb hb'; clear hb') | (go_at_call 43; (with_reducible refine (HCL.out _ (HT.out.below hb (Nat.le_refl _))).mono ?_); rintro e w' ⟨rfl, hb'⟩; have hb := nx hb hb'; clear hb') | (go_at_call 44; (with_reducible refine (HFI.out _ (HT.out.below hb (Nat.le_refl _))).mono ?_); rintro e w' ⟨rfl, hb'⟩; have hb := nx hb hb'; clear hb') | (go_at_call 30; (with_reducible refine (HSE.out _).mono ?_); rintro e w9 ⟨rfl, rfl⟩))
      go_ret2
      rw [HZ.out, HZ3.out]
      exact ⟨rfl, hb⟩

/-- what a tally's fields are, as Go has them -/
structure Fit (b c l : Int) (h t : ByteArray) : Prop where
  b : -9223372036854775808 ≤ b ∧ b ≤ 9223372036854775807
  c : -9223372036854775808 ≤ c ∧ c ≤ 9223372036854775807
  l : -9223372036854775808 ≤ l ∧ l ≤ 9223372036854775807
  h : h.size ≤ 140737488351232
  t : t.size ≤ 140737488351232

theorem check_fit {b c l : Int} {h t : ByteArray} (F : Fit b c l h t) (o : Bool) (ho : okB b c l (bs h) (bs t) = o) (w : World) :
    Calls Tryd.prog 13 #[.agg #[.int .i64 b, .int .i64 c, .int .i64 l, .string h, .string t]] w fun e w' => e = .returned (.int .i64 (if o = true then 0 else 30)) ∧ Below w.heap.size w w' :=
  check_any b c l h t F.b F.c F.l F.h F.t (if o = true then 0 else 30) (by unfold okE; rw [ho]) w

/-- two tallies, each in a block of its own -/
theorem boxes_new (w : World) (b c l : Int) (h t : ByteArray) (b' c' l' : Int) (h' t' : ByteArray) :
    BoxAt ((w.alloc (.cells #[.int .i64 b, .int .i64 c, .int .i64 l, .string h, .string t] 23)).alloc (.cells #[.int .i64 b', .int .i64 c', .int .i64 l', .string h', .string t'] 23)) w.heap.size b c l h t ∧
    BoxAt ((w.alloc (.cells #[.int .i64 b, .int .i64 c, .int .i64 l, .string h, .string t] 23)).alloc (.cells #[.int .i64 b', .int .i64 c', .int .i64 l', .string h', .string t'] 23)) (w.heap.size + 1) b' c' l' h' t' ∧
    Below w.heap.size w ((w.alloc (.cells #[.int .i64 b, .int .i64 c, .int .i64 l, .string h, .string t] 23)).alloc (.cells #[.int .i64 b', .int .i64 c', .int .i64 l', .string h', .string t'] 23)) := by
  refine ⟨(BoxAt.new w b c l h t).keep ((Below.refl _ _).alloc (Nat.le_refl _) _), ?_, al (al (Below.refl _ _) _) _⟩
  have := BoxAt.new (w.alloc (.cells #[.int .i64 b, .int .i64 c, .int .i64 l, .string h, .string t] 23)) b' c' l' h' t'
  rwa [World.size_alloc] at this

set_option maxHeartbeats 1000000 in
theorem Seam_any (b c l : Int) (h t : ByteArray) (b' c' l' : Int) (h' t' : ByteArray) (F : Fit b c l h t) (F' : Fit b' c' l' h' t') (o o' : Bool) (ho : okB b c l (bs h) (bs t) = o) (ho' : okB b' c' l' (bs h') (bs t') = o')
    (C L : Int) (hC : seamC (bs t) (bs h') = C) (hL : seamL (bs t) (bs h') = L) (w : World) (hT : Tabs w) :
    Calls Tryd.prog 16 #[.agg #[.int .i64 b, .int .i64 c, .int .i64 l, .string h, .string t], .agg #[.int .i64 b', .int .i64 c', .int .i64 l', .string h', .string t']] w fun e w' =>
      e = .returned (if (o && o') = true then .tuple #[.int .i64 C, .int .i64 L, .int .i64 0] else .tuple #[.int .i64 0, .int .i64 0, .int .i64 30]) ∧ Below w.heap.size w w' := by
  have HT := Lib.hid hT
  have HK := Lib.hid (check_fit F o ho)
  have HK' := Lib.hid (check_fit F' o' ho')
  have HS := Lib.hid (seam_any t h' F.t F'.h C L hC hL)
  clear hT ho ho' hC hL F F'
  obtain ⟨x1, x2, hb⟩ := boxes_new w b c l h t b' c' l' h' t'
  have X1 := Lib.hid x1
  have X2 := Lib.hid x2
  clear x1 x2
  cases o
  · go_enter Tryd.func16, Tryd.ntmps16
    go_wp2_with fail
    (with_reducible refine (HK.out _).mono ?_)
    rintro e w1 ⟨rfl, hb1⟩
    have hb := nx hb hb1
    clear hb1
    go_wp2_with fail
    go_ret3
    exact ⟨rfl, hb⟩
  · go_enter Tryd.func16, Tryd.ntmps16
    go_wp2_with fail
    (with_reducible refine (HK.out _).mono ?_)
    rintro e w1 ⟨rfl, hb1⟩
    have hb := nx hb hb1
    have X1 := Lib.hid (X1.out.keep hb1)
    have X2 := Lib.hid (X2.out.keep hb1)
    clear hb1
    obtain ⟨y0, y1, y2, y3, y4⟩ := X2.out
    go_wp2_with fail
    (with_reducible refine (HK'.out _).mono ?_)
    rintro e w2 ⟨rfl, hb2⟩
    have hb := nx hb hb2
    have X1 := Lib.hid (X1.out.keep hb2)
    have X2 := Lib.hid (X2.out.keep hb2)
    clear hb2 y0 y1 y2 y3 y4
    obtain ⟨x0, x1, x2, x3, x4⟩ := X1.out
    obtain ⟨y0, y1, y2, y3, y4⟩ := X2.out
    cases o'
    · go_wp2_with fail
      go_ret3
      exact ⟨rfl, hb⟩
    · go_wp2_with fail
      (with_reducible refine (HS.out _ (HT.out.below hb (Nat.le_refl _))).mono ?_)
      rintro e w3 ⟨rfl, hb3⟩
      have hb := nx hb hb3
      clear hb3
      go_wp2_with fail
      go_ret3
      exact ⟨rfl, hb⟩
end Go.Proofs.YtpihmbdfhhjleaaDoor
