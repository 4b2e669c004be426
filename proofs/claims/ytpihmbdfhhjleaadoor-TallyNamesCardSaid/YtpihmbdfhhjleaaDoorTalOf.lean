/-
  What is known of the tallies of texts, and the law's own call 'works'.
-/
import Derived.Test.YtpihmbdfhhjleaaDoorTalJoin
namespace Go.Proofs.YtpihmbdfhhjleaaDoor
open Go.RowKit

/-- the tally of a text, field by field -/
structure IsT (s : Bs) (b c l : Int) (h t : ByteArray) : Prop where
  b : b = s.length
  c : c = countN s
  l : l = linN s
  h : h = sB (hd3 s)
  t : t = sB (tl3 s)
theorem IsT.mk' (s : Bs) : IsT s s.length (countN s) (linN s) (sB (hd3 s)) (sB (tl3 s)) := ⟨rfl, rfl, rfl, rfl, rfl⟩
theorem isT_ex (s : Bs) : ∃ b c l h t, IsT s b c l h t := ⟨_, _, _, _, _, IsT.mk' s⟩

theorem of_is {s : ByteArray} (hs : s.size ≤ 1125899906842624) {b c l : Int} {h t : ByteArray} (H : IsT (bs s) b c l h t) (w : World) :
    Calls Tryd.prog 11 #[.string s] w fun e w' => e = .returned (.agg #[.int .i64 b, .int .i64 c, .int .i64 l, .string h, .string t]) ∧ Below w.heap.size w w' := by
  have := tof_any s hs w
  obtain ⟨rfl, rfl, rfl, rfl, rfl⟩ := H
  exact this
theorem rof_is {s : ByteArray} (hs : s.size ≤ 140737488351232) {b c l : Int} {h t : ByteArray} (H : IsT (bs s) b c l h t) (w : World) :
    Calls Tryd.prog 12 #[.string s] w fun e w' => e = .returned (.agg #[.int .i64 b, .int .i64 c, .int .i64 l, .string h, .string t]) ∧ Below w.heap.size w w' := by
  have := rof_any s hs w
  obtain ⟨rfl, rfl, rfl, rfl, rfl⟩ := H
  exact this

theorem ok_of (s : Bs) : okB s.length (countN s) (linN s) (hd3 s) (tl3 s) = true := by
  have h1 := countN_le s
  have h2 := linN_le s
  have h3 := count_four s
  unfold okB
  rw [Bool.and_eq_true, Bool.and_eq_true]
  refine ⟨decide_eq_true (by omega), decide_eq_true ⟨by rw [hd3_len]; omega, by rw [tl3_len]; omega⟩, ?_⟩
  by_cases h6 : (6 : Int) < s.length
  · rw [decide_eq_true h6]; rfl
  · have he := ends_all (l := s) (by omega)
    have : inner s.length (hd3 s) (tl3 s) = s := by
      unfold inner
      rw [show (2 * min (s.length : Int) 3 - s.length).toNat = 2 * min s.length 3 - s.length by omega]
      exact he
    rw [this]
    unfold okS
    rw [decide_eq_true (⟨rfl, rfl, rfl, rfl, rfl⟩ : _ ∧ _ ∧ _ ∧ _ ∧ _)]
    simp

theorem IsT.ok {s : Bs} {b c l : Int} {h t : ByteArray} (H : IsT s b c l h t) : okB b c l (bs h) (bs t) = true := by
  obtain ⟨rfl, rfl, rfl, rfl, rfl⟩ := H
  rw [bs_sB, bs_sB]
  exact ok_of s
theorem IsT.fit {s : Bs} {b c l : Int} {h t : ByteArray} (H : IsT s b c l h t) (hs : s.length ≤ 1125899906842624) : Fit b c l h t := by
  obtain ⟨rfl, rfl, rfl, rfl, rfl⟩ := H
  have h1 := countN_le s
  have h2 := linN_le s
  exact ⟨by omega, by omega, by omega, by rw [sB_size, hd3_len]; omega, by rw [sB_size, tl3_len]; omega⟩

theorem check_is {s : Bs} {b c l : Int} {h t : ByteArray} (H : IsT s b c l h t) (hs : s.length ≤ 1125899906842624) (w : World) :
    Calls Tryd.prog 13 #[.agg #[.int .i64 b, .int .i64 c, .int .i64 l, .string h, .string t]] w fun e w' => e = .returned (.int .i64 0) ∧ Below w.heap.size w w' :=
  check_fit (H.fit hs) true H.ok w

theorem seam_is {s s' : Bs} {b c l : Int} {h t : ByteArray} {b' c' l' : Int} {h' t' : ByteArray} (H : IsT s b c l h t) (H' : IsT s' b' c' l' h' t') (hs : s.length ≤ 1125899906842624) (hs' : s'.length ≤ 1125899906842624)
    (C L : Int) (hC : seamC s s' = C) (hL : seamL s s' = L) (w : World) (hT : Tabs w) :
    Calls Tryd.prog 16 #[.agg #[.int .i64 b, .int .i64 c, .int .i64 l, .string h, .string t], .agg #[.int .i64 b', .int .i64 c', .int .i64 l', .string h', .string t']] w fun e w' =>
      e = .returned (.tuple #[.int .i64 C, .int .i64 L, .int .i64 0]) ∧ Below w.heap.size w w' := by
  have e1 : bs t = tl3 s := by rw [H.t, bs_sB]
  have e2 : bs h' = hd3 s' := by rw [H'.h, bs_sB]
  have := Seam_any b c l h t b' c' l' h' t' (H.fit hs) (H'.fit hs') true true H.ok H'.ok C L (by rw [e1, e2, seamC_ends]; exact hC) (by rw [e1, e2, seamL_ends]; exact hL) w hT
  rwa [Bool.and_self, if_pos rfl] at this

theorem join_is {s s' : Bs} {b c l : Int} {h t : ByteArray} {b' c' l' : Int} {h' t' : ByteArray} {b2 c2 l2 : Int} {h2 t2 : ByteArray} (H : IsT s b c l h t) (H' : IsT s' b' c' l' h' t') (H2 : IsT (s ++ s') b2 c2 l2 h2 t2)
    (hs : s.length + s'.length ≤ 1125899906842624) (w : World) (hT : Tabs w) :
    Calls Tryd.prog 18 #[.agg #[.int .i64 b, .int .i64 c, .int .i64 l, .string h, .string t], .agg #[.int .i64 b', .int .i64 c', .int .i64 l', .string h', .string t']] w fun e w' =>
      e = .returned (.tuple #[.agg #[.int .i64 b2, .int .i64 c2, .int .i64 l2, .string h2, .string t2], .int .i64 0]) ∧ Below w.heap.size w w' := by
  have e1 : bs t = tl3 s := by rw [H.t, bs_sB]
  have e2 : bs h' = hd3 s' := by rw [H'.h, bs_sB]
  have e3 : bs h = hd3 s := by rw [H.h, bs_sB]
  have e4 : bs t' = tl3 s' := by rw [H'.t, bs_sB]
  have hj := join_yes b c l h t b' c' l' h' t' (H.fit (by omega)) (H'.fit (by omega)) H.ok H'.ok (seamC s s') (seamL s s') (by rw [e1, e2, seamC_ends]) (by rw [e1, e2, seamL_ends]) w hT
  have hl1 := countN_le s
  have hl2 := countN_le s'
  have hl3 := linN_le s
  have hl4 := linN_le s'
  have hsb := seam_bounds s s'
  have hok := H2.ok
  have q1 : b + b' = b2 := by rw [H.b, H'.b, H2.b, List.length_append]; omega
  have q2 : c + c' + seamC s s' = c2 := by rw [H.c, H'.c, H2.c, seam_chars]
  have q3 : IntKind.i64.wrap (l + l' + seamL s s') = l2 := by
    rw [H.l, H'.l, H2.l, ← seam_lines, IntKind.wrap_i64]
    have := seam_lines s s'
    omega
  have q4 : hd3 (bs h ++ bs h') = bs h2 := by rw [e3, e2, hd3_join, H2.h, bs_sB]
  have q5 : tl3 (bs t ++ bs t') = bs t2 := by rw [e1, e4, tl3_join, H2.t, bs_sB]
  have hbb := H.b
  have hbb' := H'.b
  unfold joinV at hj
  rw [if_neg (by omega), q1, q2, q3, q4, q5, if_pos hok, sB_bs, sB_bs] at hj
  exact hj

/-! ### works -/
theorem is1 : IsT [226] 1 1 0 ⟨#[226]⟩ ⟨#[226]⟩ := ⟨rfl, by decide +kernel, by decide +kernel, rfl, rfl⟩
theorem is2 : IsT [128, 168] 2 2 0 ⟨#[128, 168]⟩ ⟨#[128, 168]⟩ := ⟨rfl, by decide +kernel, by decide +kernel, rfl, rfl⟩
theorem is3 : IsT ([226] ++ [128, 168]) 3 1 1 ⟨#[226, 128, 168]⟩ ⟨#[226, 128, 168]⟩ := ⟨rfl, by decide +kernel, by decide +kernel, rfl, rfl⟩
theorem is4 : IsT [97, 13] 2 2 1 ⟨#[97, 13]⟩ ⟨#[97, 13]⟩ := ⟨rfl, by decide +kernel, by decide +kernel, rfl, rfl⟩
theorem is5 : IsT [10, 98] 2 2 1 ⟨#[10, 98]⟩ ⟨#[10, 98]⟩ := ⟨rfl, by decide +kernel, by decide +kernel, rfl, rfl⟩

theorem works_any (w : World) (hT : Tabs w) : Calls Tryd.prog 14 #[] w fun e w' => e = .returned (.bool true) ∧ Below w.heap.size w w' := by
  have HT := Lib.hid hT
  clear hT
  have hb := Below.refl w.heap.size w
  have H1 := Lib.hid (of_is (s := ⟨#[226]⟩) (by decide) is1)
  have H2 := Lib.hid (of_is (s := ⟨#[128, 168]⟩) (by decide) is2)
  have H3 := Lib.hid (join_is is1 is2 is3 (by decide))
  have H4 := Lib.hid (of_is (s := ⟨#[97, 13]⟩) (by decide) is4)
  have H5 := Lib.hid (of_is (s := ⟨#[10, 98]⟩) (by decide) is5)
  have H6 := Lib.hid (seam_is is4 is5 (by decide) (by decide) 0 (-1) (by decide +kernel) (by decide +kernel))
  have hgd := guard_tal
  have heq := fun w => eq_tal 3 1 1 ⟨#[226, 128, 168]⟩ ⟨#[226, 128, 168]⟩ 3 1 1 ⟨#[226, 128, 168]⟩ ⟨#[226, 128, 168]⟩ w
  rw [show eqT 3 1 1 ⟨#[226, 128, 168]⟩ ⟨#[226, 128, 168]⟩ 3 1 1 ⟨#[226, 128, 168]⟩ ⟨#[226, 128, 168]⟩ = true from decide_eq_true ⟨rfl, rfl, rfl, rfl, rfl⟩] at heq
  go_enter Tryd.func14, Tryd.ntmps14
  go_wp2_with fail
  (with_reducible refine (H1.out _).mono ?_)
  rintro e w1 ⟨rfl, hb1⟩
  have hb := nx hb hb1
  clear hb1
  go_wp2_with fail
  (with_reducible refine (H2.out _).mono ?_)
  rintro e w2 ⟨rfl, hb1⟩
  have hb := nx hb hb1
  clear hb1
  go_wp2_with fail
  (with_reducible refine (H3.out _ (HT.out.below hb (Nat.le_refl _))).mono ?_)
  rintro e w' ⟨rfl, hb1⟩
  have hb := nx hb hb1
  clear hb1
  have X := Lib.hid (BoxAt.new w' 3 1 1 ⟨#[226, 128, 168]⟩ ⟨#[226, 128, 168]⟩)
  have hb := al hb (.cells #[.int .i64 3, .int .i64 1, .int .i64 1, .string ⟨#[226, 128, 168]⟩, .string ⟨#[226, 128, 168]⟩] 23)
  go_wp2_with fail
  (with_reducible refine (H4.out _).mono ?_)
  rintro e w1 ⟨rfl, hb1⟩
  have hb := nx hb hb1
  have X := Lib.hid (X.out.keep hb1)
  clear hb1
  go_wp2_with fail
  (with_reducible refine (H5.out _).mono ?_)
  rintro e w2 ⟨rfl, hb2⟩
  have hb := nx hb hb2
  have X := Lib.hid (X.out.keep hb2)
  clear hb2
  go_wp2_with fail
  (with_reducible refine (H6.out _ (HT.out.below hb (Nat.le_refl _))).mono ?_)
  rintro e w3 ⟨rfl, hb3⟩
  have hb := nx hb hb3
  have X := X.out.keep hb3
  clear hb3
  obtain ⟨x0, x1, x2, x3, x4⟩ := X
  go_wp2_with fail
  go_ret
  exact ⟨rfl, hb⟩
end Go.Proofs.YtpihmbdfhhjleaaDoor
