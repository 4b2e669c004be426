/-
  The walk of the law TallyThree: joining knows no brackets.
-/
import Derived.Test.YtpihmbdfhhjleaaDoorTalOf
namespace Go.Proofs.YtpihmbdfhhjleaaDoor
open Go.RowKit

theorem isE : IsT [] 0 0 0 ⟨#[]⟩ ⟨#[]⟩ := ⟨rfl, rfl, rfl, rfl, rfl⟩

set_option maxRecDepth 100000 in
set_option maxHeartbeats 8000000 in
theorem tallyThree_any (a : ByteArray) (ha : a.size ≤ 140737488351232) (b : ByteArray) (hbz : b.size ≤ 140737488351232) (c : ByteArray) (hcz : c.size ≤ 140737488351232) (w : World) (hT : Tabs w) :
    Calls Tryd.prog 6 #[.string a, .string b, .string c] w fun e w' => e = .returned (.bool true) ∧ Below w.heap.size w w' := by
  have hal : (bs a).length ≤ 140737488351232 := by rw [← size_bs]; exact ha
  have hbl : (bs b).length ≤ 140737488351232 := by rw [← size_bs]; exact hbz
  have hcl : (bs c).length ≤ 140737488351232 := by rw [← size_bs]; exact hcz
  obtain ⟨xb, xc, xl, xh, xt, IX⟩ := isT_ex (bs a)
  obtain ⟨yb, yc, yl, yh, yt, IY⟩ := isT_ex (bs b)
  obtain ⟨zb, zc, zl, zh, zt, IZ⟩ := isT_ex (bs c)
  obtain ⟨pb, pc, pl, ph, pt, IP⟩ := isT_ex (bs a ++ bs b)
  obtain ⟨qb, qc, ql, qh, qt, IQ⟩ := isT_ex (bs b ++ bs c)
  obtain ⟨rb, rc, rl, rh, rt, IR⟩ := isT_ex (bs a ++ bs b ++ bs c)
  have HX := Lib.hid (of_is (s := a) (by omega) IX)
  have HY := Lib.hid (of_is (s := b) (by omega) IY)
  have HZ := Lib.hid (of_is (s := c) (by omega) IZ)
  have HXY := Lib.hid (join_is IX IY IP (by omega))
  have HYZ := Lib.hid (join_is IY IZ IQ (by omega))
  have HL := Lib.hid (join_is IP IZ IR (by rw [List.length_append]; omega))
  have HR := Lib.hid (join_is IX IQ (by rw [← List.append_assoc]; exact IR) (by rw [List.length_append]; omega))
  have HE := Lib.hid (join_is isE IX IX (by simp; omega))
  have HA := Lib.hid (join_is IX isE (by rw [List.append_nil]; exact IX) (by simp; omega))
  have hsz1 : (a ++ b).size = a.size + b.size := by simp [ByteArray.size_append]
  have hsz2 : (a ++ b ++ c).size = a.size + b.size + c.size := by simp [ByteArray.size_append]
  have HW := Lib.hid (of_is (s := a ++ b ++ c) (by rw [hsz2]; omega) (by rw [bs_append, bs_append]; exact IR))
  have hct1 : ¬ (9223372036854775807 < a.size + b.size) := by omega
  have hct2 : ¬ (9223372036854775807 < a.size + b.size + c.size) := by omega
  have hsb := seam_bounds (bs a) (bs b)
  have hsc := seam_chars (bs a) (bs b)
  have hsl := seam_lines (bs a) (bs b)
  have k1 := countN_le (bs a)
  have k2 := countN_le (bs b)
  have k3 := linN_le (bs a)
  have k4 := linN_le (bs b)
  obtain ⟨C, hC⟩ : ∃ C, seamC (bs a) (bs b) = C := ⟨_, rfl⟩
  obtain ⟨L, hL⟩ : ∃ L, seamL (bs a) (bs b) = L := ⟨_, rfl⟩
  have HS := Lib.hid (seam_is IX IY (by omega) (by omega) C L hC hL)
  rw [hC, hL] at hsb
  rw [hC] at hsc
  rw [hL] at hsl
  have hxc := IX.c
  have hyc := IY.c
  have hpc := IP.c
  have hxl := IX.l
  have hyl := IY.l
  have hpl := IP.l
  have w1 : IntKind.i64.wrap (xc + yc) = xc + yc := by rw [IntKind.wrap_i64]; omega
  have w2 : IntKind.i64.wrap (xc + yc + C) = xc + yc + C := by rw [IntKind.wrap_i64]; omega
  have w3 : IntKind.i64.wrap (xl + yl) = xl + yl := by rw [IntKind.wrap_i64]; omega
  have w4 : IntKind.i64.wrap (xl + yl + L) = xl + yl + L := by rw [IntKind.wrap_i64]; omega
  have v1 : -9223372036854775808 ≤ xc + yc ∧ xc + yc ≤ 9223372036854775807 := by omega
  have v2 : -9223372036854775808 ≤ xc + yc + C ∧ xc + yc + C ≤ 9223372036854775807 := by omega
  have v3 : -9223372036854775808 ≤ xl + yl ∧ xl + yl ≤ 9223372036854775807 := by omega
  have v4 : -9223372036854775808 ≤ xl + yl + L ∧ xl + yl + L ≤ 9223372036854775807 := by omega
  have e1 : (pc == xc + yc + C) = true := beq_iff_eq.2 (by omega)
  have e2 : (pl == xl + yl + L) = true := beq_iff_eq.2 (by omega)
  have e3 : decide (C ≤ 0) = true := decide_eq_true hsb.2.1
  have e4 : decide (-3 ≤ C) = true := decide_eq_true hsb.1
  have e5 : decide (L ≤ 1) = true := decide_eq_true hsb.2.2.2
  have e6 : decide (-1 ≤ L) = true := decide_eq_true hsb.2.2.1
  clear hsc hsl k1 k2 k3 k4 hC hL hxc hyc hpc hxl hyl hpl IX IY IZ IP IQ IR hal hbl hcl hsz1 hsz2
  have HT := Lib.hid hT
  clear hT
  have hgd := guard_tal
  have heq1 := fun w => eq_tal xb xc xl xh xt xb xc xl xh xt w
  rw [show eqT xb xc xl xh xt xb xc xl xh xt = true from decide_eq_true ⟨rfl, rfl, rfl, rfl, rfl⟩] at heq1
  have heq2 := fun w => eq_tal rb rc rl rh rt rb rc rl rh rt w
  rw [show eqT rb rc rl rh rt rb rc rl rh rt = true from decide_eq_true ⟨rfl, rfl, rfl, rfl, rfl⟩] at heq2
  have hb := Below.refl w.heap.size w
  go_enter Tryd.func6, Tryd.ntmps6
  go_wp2_with fail
  (with_reducible refine (HX.out _).mono ?_)
  rintro e w1 ⟨rfl, hb1⟩
  have hb := nx hb hb1
  clear hb1
  go_wp2_with fail
  (with_reducible refine (HY.out _).mono ?_)
  rintro e w2 ⟨rfl, hb2⟩
  have hb := nx hb hb2
  clear hb2
  go_wp2_with fail
  (with_reducible refine (HZ.out _).mono ?_)
  rintro e w3 ⟨rfl, hb3⟩
  have hb := nx hb hb3
  clear hb3
  have Bx := Lib.hid (((BoxAt.new w3 xb xc xl xh xt).keep ((Below.refl _ _).alloc (Nat.le_refl _) (.cells #[.int .i64 yb, .int .i64 yc, .int .i64 yl, .string yh, .string yt] 23))).keep ((Below.refl _ _).alloc (Nat.le_refl _) (.cells #[.int .i64 zb, .int .i64 zc, .int .i64 zl, .string zh, .string zt] 23)))
  have By := Lib.hid ((BoxAt.new (w3.alloc (.cells #[.int .i64 xb, .int .i64 xc, .int .i64 xl, .string xh, .string xt] 23)) yb yc yl yh yt).keep ((Below.refl _ _).alloc (Nat.le_refl _) (.cells #[.int .i64 zb, .int .i64 zc, .int .i64 zl, .string zh, .string zt] 23)))
  have Bz := Lib.hid (BoxAt.new ((w3.alloc (.cells #[.int .i64 xb, .int .i64 xc, .int .i64 xl, .string xh, .string xt] 23)).alloc (.cells #[.int .i64 yb, .int .i64 yc, .int .i64 yl, .string yh, .string yt] 23)) zb zc zl zh zt)
  have hb := al (al (al hb (.cells #[.int .i64 xb, .int .i64 xc, .int .i64 xl, .string xh, .string xt] 23)) (.cells #[.int .i64 yb, .int .i64 yc, .int .i64 yl, .string yh, .string yt] 23)) (.cells #[.int .i64 zb, .int .i64 zc, .int .i64 zl, .string zh, .string zt] 23)
  rw [World.size_alloc] at By Bz
  rw [World.size_alloc] at Bz
  obtain ⟨gx0, gx1, gx2, gx3, gx4⟩ := Bx.out
  obtain ⟨gy0, gy1, gy2, gy3, gy4⟩ := By.out
  go_wp2_with fail
  (with_reducible refine (HXY.out _ (HT.out.below hb (Nat.le_refl _))).mono ?_)
  rintro e w4 ⟨rfl, hb4⟩
  have hb := nx hb hb4
  have Bx := Lib.hid (Bx.out.keep hb4)
  have By := Lib.hid (By.out.keep hb4)
  have Bz := Lib.hid (Bz.out.keep hb4)
  clear gx0 gx1 gx2 gx3 gx4 gy0 gy1 gy2 gy3 gy4
  clear hb4
  have Bp := Lib.hid (BoxAt.new w4 pb pc pl ph pt)
  have Bx := Lib.hid (Bx.out.keep ((Below.refl _ w4).alloc (Nat.le_refl _) (.cells #[.int .i64 pb, .int .i64 pc, .int .i64 pl, .string ph, .string pt] 23)))
  have By := Lib.hid (By.out.keep ((Below.refl _ w4).alloc (Nat.le_refl _) (.cells #[.int .i64 pb, .int .i64 pc, .int .i64 pl, .string ph, .string pt] 23)))
  have Bz := Lib.hid (Bz.out.keep ((Below.refl _ w4).alloc (Nat.le_refl _) (.cells #[.int .i64 pb, .int .i64 pc, .int .i64 pl, .string ph, .string pt] 23)))
  have hb := al hb (.cells #[.int .i64 pb, .int .i64 pc, .int .i64 pl, .string ph, .string pt] 23)
  obtain ⟨gy0, gy1, gy2, gy3, gy4⟩ := By.out
  obtain ⟨gz0, gz1, gz2, gz3, gz4⟩ := Bz.out
  go_wp2_with fail
  (with_reducible refine (HYZ.out _ (HT.out.below hb (Nat.le_refl _))).mono ?_)
  rintro e w5 ⟨rfl, hb5⟩
  have hb := nx hb hb5
  have Bx := Lib.hid (Bx.out.keep hb5)
  have By := Lib.hid (By.out.keep hb5)
  have Bz := Lib.hid (Bz.out.keep hb5)
  have Bp := Lib.hid (Bp.out.keep hb5)
  clear gy0 gy1 gy2 gy3 gy4 gz0 gz1 gz2 gz3 gz4
  clear hb5
  have Bq := Lib.hid (BoxAt.new w5 qb qc ql qh qt)
  have Bx := Lib.hid (Bx.out.keep ((Below.refl _ w5).alloc (Nat.le_refl _) (.cells #[.int .i64 qb, .int .i64 qc, .int .i64 ql, .string qh, .string qt] 23)))
  have By := Lib.hid (By.out.keep ((Below.refl _ w5).alloc (Nat.le_refl _) (.cells #[.int .i64 qb, .int .i64 qc, .int .i64 ql, .string qh, .string qt] 23)))
  have Bz := Lib.hid (Bz.out.keep ((Below.refl _ w5).alloc (Nat.le_refl _) (.cells #[.int .i64 qb, .int .i64 qc, .int .i64 ql, .string qh, .string qt] 23)))
  have Bp := Lib.hid (Bp.out.keep ((Below.refl _ w5).alloc (Nat.le_refl _) (.cells #[.int .i64 qb, .int .i64 qc, .int .i64 ql, .string qh, .string qt] 23)))
  have hb := al hb (.cells #[.int .i64 qb, .int .i64 qc, .int .i64 ql, .string qh, .string qt] 23)
  have HK := Lib.hid works_any
  go_wp2_with fail
  (with_reducible refine (HK.out _ (HT.out.below hb (Nat.le_refl _))).mono ?_)
  rintro e w6 ⟨rfl, hb6⟩
  have hb := nx hb hb6
  have Bx := Lib.hid (Bx.out.keep hb6)
  have By := Lib.hid (By.out.keep hb6)
  have Bz := Lib.hid (Bz.out.keep hb6)
  have Bp := Lib.hid (Bp.out.keep hb6)
  have Bq := Lib.hid (Bq.out.keep hb6)
  clear hb6
  obtain ⟨gp0, gp1, gp2, gp3, gp4⟩ := Bp.out
  obtain ⟨gz0, gz1, gz2, gz3, gz4⟩ := Bz.out
  go_wp2_with fail
  (with_reducible refine (HL.out _ (HT.out.below hb (Nat.le_refl _))).mono ?_)
  rintro e w7 ⟨rfl, hb7⟩
  have hb := nx hb hb7
  have Bx := Lib.hid (Bx.out.keep hb7)
  have By := Lib.hid (By.out.keep hb7)
  have Bz := Lib.hid (Bz.out.keep hb7)
  have Bp := Lib.hid (Bp.out.keep hb7)
  have Bq := Lib.hid (Bq.out.keep hb7)
  clear gp0 gp1 gp2 gp3 gp4 gz0 gz1 gz2 gz3 gz4
  clear hb7
  have Bm := Lib.hid (BoxAt.new w7 rb rc rl rh rt)
  have Bx := Lib.hid (Bx.out.keep ((Below.refl _ w7).alloc (Nat.le_refl _) (.cells #[.int .i64 rb, .int .i64 rc, .int .i64 rl, .string rh, .string rt] 23)))
  have By := Lib.hid (By.out.keep ((Below.refl _ w7).alloc (Nat.le_refl _) (.cells #[.int .i64 rb, .int .i64 rc, .int .i64 rl, .string rh, .string rt] 23)))
  have Bz := Lib.hid (Bz.out.keep ((Below.refl _ w7).alloc (Nat.le_refl _) (.cells #[.int .i64 rb, .int .i64 rc, .int .i64 rl, .string rh, .string rt] 23)))
  have Bp := Lib.hid (Bp.out.keep ((Below.refl _ w7).alloc (Nat.le_refl _) (.cells #[.int .i64 rb, .int .i64 rc, .int .i64 rl, .string rh, .string rt] 23)))
  have Bq := Lib.hid (Bq.out.keep ((Below.refl _ w7).alloc (Nat.le_refl _) (.cells #[.int .i64 rb, .int .i64 rc, .int .i64 rl, .string rh, .string rt] 23)))
  have hb := al hb (.cells #[.int .i64 rb, .int .i64 rc, .int .i64 rl, .string rh, .string rt] 23)
  obtain ⟨gx0, gx1, gx2, gx3, gx4⟩ := Bx.out
  obtain ⟨gq0, gq1, gq2, gq3, gq4⟩ := Bq.out
  go_wp2_with fail
  (with_reducible refine (HR.out _ (HT.out.below hb (Nat.le_refl _))).mono ?_)
  rintro e w8 ⟨rfl, hb8⟩
  have hb := nx hb hb8
  have Bx := Lib.hid (Bx.out.keep hb8)
  have By := Lib.hid (By.out.keep hb8)
  have Bz := Lib.hid (Bz.out.keep hb8)
  have Bp := Lib.hid (Bp.out.keep hb8)
  have Bq := Lib.hid (Bq.out.keep hb8)
  have Bm := Lib.hid (Bm.out.keep hb8)
  clear gx0 gx1 gx2 gx3 gx4 gq0 gq1 gq2 gq3 gq4
  clear hb8
  have Bn := Lib.hid (BoxAt.new w8 rb rc rl rh rt)
  have Bx := Lib.hid (Bx.out.keep ((Below.refl _ w8).alloc (Nat.le_refl _) (.cells #[.int .i64 rb, .int .i64 rc, .int .i64 rl, .string rh, .string rt] 23)))
  have By := Lib.hid (By.out.keep ((Below.refl _ w8).alloc (Nat.le_refl _) (.cells #[.int .i64 rb, .int .i64 rc, .int .i64 rl, .string rh, .string rt] 23)))
  have Bz := Lib.hid (Bz.out.keep ((Below.refl _ w8).alloc (Nat.le_refl _) (.cells #[.int .i64 rb, .int .i64 rc, .int .i64 rl, .string rh, .string rt] 23)))
  have Bp := Lib.hid (Bp.out.keep ((Below.refl _ w8).alloc (Nat.le_refl _) (.cells #[.int .i64 rb, .int .i64 rc, .int .i64 rl, .string rh, .string rt] 23)))
  have Bq := Lib.hid (Bq.out.keep ((Below.refl _ w8).alloc (Nat.le_refl _) (.cells #[.int .i64 rb, .int .i64 rc, .int .i64 rl, .string rh, .string rt] 23)))
  have Bm := Lib.hid (Bm.out.keep ((Below.refl _ w8).alloc (Nat.le_refl _) (.cells #[.int .i64 rb, .int .i64 rc, .int .i64 rl, .string rh, .string rt] 23)))
  have hb := al hb (.cells #[.int .i64 rb, .int .i64 rc, .int .i64 rl, .string rh, .string rt] 23)
  obtain ⟨gx0, gx1, gx2, gx3, gx4⟩ := Bx.out
  go_wp2_with fail
  (with_reducible refine (HE.out _ (HT.out.below hb (Nat.le_refl _))).mono ?_)
  rintro e w9 ⟨rfl, hb9⟩
  have hb := nx hb hb9
  have Bx := Lib.hid (Bx.out.keep hb9)
  have By := Lib.hid (By.out.keep hb9)
  have Bz := Lib.hid (Bz.out.keep hb9)
  have Bp := Lib.hid (Bp.out.keep hb9)
  have Bq := Lib.hid (Bq.out.keep hb9)
  have Bm := Lib.hid (Bm.out.keep hb9)
  have Bn := Lib.hid (Bn.out.keep hb9)
  clear gx0 gx1 gx2 gx3 gx4
  clear hb9
  have Be := Lib.hid (BoxAt.new w9 xb xc xl xh xt)
  have Bx := Lib.hid (Bx.out.keep ((Below.refl _ w9).alloc (Nat.le_refl _) (.cells #[.int .i64 xb, .int .i64 xc, .int .i64 xl, .string xh, .string xt] 23)))
  have By := Lib.hid (By.out.keep ((Below.refl _ w9).alloc (Nat.le_refl _) (.cells #[.int .i64 xb, .int .i64 xc, .int .i64 xl, .string xh, .string xt] 23)))
  have Bz := Lib.hid (Bz.out.keep ((Below.refl _ w9).alloc (Nat.le_refl _) (.cells #[.int .i64 xb, .int .i64 xc, .int .i64 xl, .string xh, .string xt] 23)))
  have Bp := Lib.hid (Bp.out.keep ((Below.refl _ w9).alloc (Nat.le_refl _) (.cells #[.int .i64 xb, .int .i64 xc, .int .i64 xl, .string xh, .string xt] 23)))
  have Bq := Lib.hid (Bq.out.keep ((Below.refl _ w9).alloc (Nat.le_refl _) (.cells #[.int .i64 xb, .int .i64 xc, .int .i64 xl, .string xh, .string xt] 23)))
  have Bm := Lib.hid (Bm.out.keep ((Below.refl _ w9).alloc (Nat.le_refl _) (.cells #[.int .i64 xb, .int .i64 xc, .int .i64 xl, .string xh, .string xt] 23)))
  have Bn := Lib.hid (Bn.out.keep ((Below.refl _ w9).alloc (Nat.le_refl _) (.cells #[.int .i64 xb, .int .i64 xc, .int .i64 xl, .string xh, .string xt] 23)))
  have hb := al hb (.cells #[.int .i64 xb, .int .i64 xc, .int .i64 xl, .string xh, .string xt] 23)
  obtain ⟨gx0, gx1, gx2, gx3, gx4⟩ := Bx.out
  go_wp2_with fail
  (with_reducible refine (HA.out _ (HT.out.below hb (Nat.le_refl _))).mono ?_)
  rintro e w10 ⟨rfl, hb10⟩
  have hb := nx hb hb10
  have Bx := Lib.hid (Bx.out.keep hb10)
  have By := Lib.hid (By.out.keep hb10)
  have Bz := Lib.hid (Bz.out.keep hb10)
  have Bp := Lib.hid (Bp.out.keep hb10)
  have Bq := Lib.hid (Bq.out.keep hb10)
  have Bm := Lib.hid (Bm.out.keep hb10)
  have Bn := Lib.hid (Bn.out.keep hb10)
  have Be := Lib.hid (Be.out.keep hb10)
  clear gx0 gx1 gx2 gx3 gx4
  clear hb10
  have Bf := Lib.hid (BoxAt.new w10 xb xc xl xh xt)
  have Bx := Lib.hid (Bx.out.keep ((Below.refl _ w10).alloc (Nat.le_refl _) (.cells #[.int .i64 xb, .int .i64 xc, .int .i64 xl, .string xh, .string xt] 23)))
  have By := Lib.hid (By.out.keep ((Below.refl _ w10).alloc (Nat.le_refl _) (.cells #[.int .i64 xb, .int .i64 xc, .int .i64 xl, .string xh, .string xt] 23)))
  have Bz := Lib.hid (Bz.out.keep ((Below.refl _ w10).alloc (Nat.le_refl _) (.cells #[.int .i64 xb, .int .i64 xc, .int .i64 xl, .string xh, .string xt] 23)))
  have Bp := Lib.hid (Bp.out.keep ((Below.refl _ w10).alloc (Nat.le_refl _) (.cells #[.int .i64 xb, .int .i64 xc, .int .i64 xl, .string xh, .string xt] 23)))
  have Bq := Lib.hid (Bq.out.keep ((Below.refl _ w10).alloc (Nat.le_refl _) (.cells #[.int .i64 xb, .int .i64 xc, .int .i64 xl, .string xh, .string xt] 23)))
  have Bm := Lib.hid (Bm.out.keep ((Below.refl _ w10).alloc (Nat.le_refl _) (.cells #[.int .i64 xb, .int .i64 xc, .int .i64 xl, .string xh, .string xt] 23)))
  have Bn := Lib.hid (Bn.out.keep ((Below.refl _ w10).alloc (Nat.le_refl _) (.cells #[.int .i64 xb, .int .i64 xc, .int .i64 xl, .string xh, .string xt] 23)))
  have Be := Lib.hid (Be.out.keep ((Below.refl _ w10).alloc (Nat.le_refl _) (.cells #[.int .i64 xb, .int .i64 xc, .int .i64 xl, .string xh, .string xt] 23)))
  have hb := al hb (.cells #[.int .i64 xb, .int .i64 xc, .int .i64 xl, .string xh, .string xt] 23)
  obtain ⟨gx0, gx1, gx2, gx3, gx4⟩ := Bx.out
  obtain ⟨gy0, gy1, gy2, gy3, gy4⟩ := By.out
  go_wp2_with fail
  (with_reducible refine (HS.out _ (HT.out.below hb (Nat.le_refl _))).mono ?_)
  rintro e w11 ⟨rfl, hb11⟩
  have hb := nx hb hb11
  have Bx := Lib.hid (Bx.out.keep hb11)
  have By := Lib.hid (By.out.keep hb11)
  have Bz := Lib.hid (Bz.out.keep hb11)
  have Bp := Lib.hid (Bp.out.keep hb11)
  have Bq := Lib.hid (Bq.out.keep hb11)
  have Bm := Lib.hid (Bm.out.keep hb11)
  have Bn := Lib.hid (Bn.out.keep hb11)
  have Be := Lib.hid (Be.out.keep hb11)
  have Bf := Lib.hid (Bf.out.keep hb11)
  clear gx0 gx1 gx2 gx3 gx4 gy0 gy1 gy2 gy3 gy4
  clear hb11
  obtain ⟨gx0, gx1, gx2, gx3, gx4⟩ := Bx.out
  obtain ⟨gy0, gy1, gy2, gy3, gy4⟩ := By.out
  obtain ⟨gp0, gp1, gp2, gp3, gp4⟩ := Bp.out
  obtain ⟨gm0, gm1, gm2, gm3, gm4⟩ := Bm.out
  obtain ⟨gn0, gn1, gn2, gn3, gn4⟩ := Bn.out
  obtain ⟨ge0, ge1, ge2, ge3, ge4⟩ := Be.out
  obtain ⟨gf0, gf1, gf2, gf3, gf4⟩ := Bf.out
  go_wp2_with fail
  simp only [List.append_eq, List.cons_append, List.nil_append]
  go_region_held3 (fun w' => w'.cell? ⟨w3.heap.size, 0, none⟩ = some (.int .i64 xb) ∧ w'.cell? ⟨w3.heap.size, 1, none⟩ = some (.int .i64 xc) ∧ w'.cell? ⟨w3.heap.size, 2, none⟩ = some (.int .i64 xl) ∧ w'.cell? ⟨w3.heap.size, 3, none⟩ = some (.string xh) ∧ w'.cell? ⟨w3.heap.size, 4, none⟩ = some (.string xt) ∧ w'.cell? ⟨w3.heap.size + 1, 1, none⟩ = some (.int .i64 yc) ∧ w'.cell? ⟨w3.heap.size + 1, 2, none⟩ = some (.int .i64 yl) ∧ w'.cell? ⟨w4.heap.size, 1, none⟩ = some (.int .i64 pc) ∧ w'.cell? ⟨w4.heap.size, 2, none⟩ = some (.int .i64 pl) ∧ w'.cell? ⟨w7.heap.size, 0, none⟩ = some (.int .i64 rb) ∧ w'.cell? ⟨w7.heap.size, 1, none⟩ = some (.int .i64 rc) ∧ w'.cell? ⟨w7.heap.size, 2, none⟩ = some (.int .i64 rl) ∧ w'.cell? ⟨w7.heap.size, 3, none⟩ = some (.string rh) ∧ w'.cell? ⟨w7.heap.size, 4, none⟩ = some (.string rt) ∧ w'.cell? ⟨w8.heap.size, 0, none⟩ = some (.int .i64 rb) ∧ w'.cell? ⟨w8.heap.size, 1, none⟩ = some (.int .i64 rc) ∧ w'.cell? ⟨w8.heap.size, 2, none⟩ = some (.int .i64 rl) ∧ w'.cell? ⟨w8.heap.size, 3, none⟩ = some (.string rh) ∧ w'.cell? ⟨w8.heap.size, 4, none⟩ = some (.string rt) ∧ w'.cell? ⟨w9.heap.size, 0, none⟩ = some (.int .i64 xb) ∧ w'.cell? ⟨w9.heap.size, 1, none⟩ = some (.int .i64 xc) ∧ w'.cell? ⟨w9.heap.size, 2, none⟩ = some (.int .i64 xl) ∧ w'.cell? ⟨w9.heap.size, 3, none⟩ = some (.string xh) ∧ w'.cell? ⟨w9.heap.size, 4, none⟩ = some (.string xt) ∧ w'.cell? ⟨w10.heap.size, 0, none⟩ = some (.int .i64 xb) ∧ w'.cell? ⟨w10.heap.size, 1, none⟩ = some (.int .i64 xc) ∧ w'.cell? ⟨w10.heap.size, 2, none⟩ = some (.int .i64 xl) ∧ w'.cell? ⟨w10.heap.size, 3, none⟩ = some (.string xh) ∧ w'.cell? ⟨w10.heap.size, 4, none⟩ = some (.string xt) ∧ Below w.heap.size w w') (first | exact ⟨gx0, gx1, gx2, gx3, gx4, gy1, gy2, gp1, gp2, gm0, gm1, gm2, gm3, gm4, gn0, gn1, gn2, gn3, gn4, ge0, ge1, ge2, ge3, ge4, gf0, gf1, gf2, gf3, gf4, hb.drew⟩ | exact ⟨cell_keep (W := w11.drew) gx0 (by assumption), cell_keep (W := w11.drew) gx1 (by assumption), cell_keep (W := w11.drew) gx2 (by assumption), cell_keep (W := w11.drew) gx3 (by assumption), cell_keep (W := w11.drew) gx4 (by assumption), cell_keep (W := w11.drew) gy1 (by assumption), cell_keep (W := w11.drew) gy2 (by assumption), cell_keep (W := w11.drew) gp1 (by assumption), cell_keep (W := w11.drew) gp2 (by assumption), cell_keep (W := w11.drew) gm0 (by assumption), cell_keep (W := w11.drew) gm1 (by assumption), cell_keep (W := w11.drew) gm2 (by assumption), cell_keep (W := w11.drew) gm3 (by assumption), cell_keep (W := w11.drew) gm4 (by assumption), cell_keep (W := w11.drew) gn0 (by assumption), cell_keep (W := w11.drew) gn1 (by assumption), cell_keep (W := w11.drew) gn2 (by assumption), cell_keep (W := w11.drew) gn3 (by assumption), cell_keep (W := w11.drew) gn4 (by assumption), cell_keep (W := w11.drew) ge0 (by assumption), cell_keep (W := w11.drew) ge1 (by assumption), cell_keep (W := w11.drew) ge2 (by assumption), cell_keep (W := w11.drew) ge3 (by assumption), cell_keep (W := w11.drew) ge4 (by assumption), cell_keep (W := w11.drew) gf0 (by assumption), cell_keep (W := w11.drew) gf1 (by assumption), cell_keep (W := w11.drew) gf2 (by assumption), cell_keep (W := w11.drew) gf3 (by assumption), cell_keep (W := w11.drew) gf4 (by assumption), nx hb.drew (by assumption)⟩)
    (first | (go_at_call 11; (with_reducible refine (HW.out _).mono ?_); rintro e w' ⟨rfl, hb'⟩))
  all_goals
    go_wp2_with fail
    go_ret
    exact ⟨rfl, nx hb.drew hb'⟩
end Go.Proofs.YtpihmbdfhhjleaaDoor
