/-
  The walks of the laws TallyChecks and TallyJoins.
-/
import Derived.Test.YtpihmbdfhhjleaaDoorTalRJoin
import Derived.Test.YtpihmbdfhhjleaaDoorTells
namespace Go.Proofs.YtpihmbdfhhjleaaDoor
open Go.RowKit

set_option maxHeartbeats 2000000 in
theorem tallyChecks_any (b c l : Int) (h t : ByteArray) (F : Fit b c l h t) (w : World) (hT : Tabs w) :
    Calls Tryd.prog 4 #[.agg #[.int .i64 b, .int .i64 c, .int .i64 l, .string h, .string t]] w fun e w' => e = .returned (.bool true) ∧ Below w.heap.size w w' := by
  have HT := Lib.hid hT
  obtain ⟨o, ho⟩ : ∃ o, okB b c l (bs h) (bs t) = o := ⟨_, rfl⟩
  have HK := Lib.hid (check_fit F o ho)
  have HR := Lib.hid (rcheck_fit F o ho)
  have hw := (Below.refl w.heap.size w).alloc (Nat.le_refl _) (.cells #[.int .i64 b, .int .i64 c, .int .i64 l, .string h, .string t] 23)
  have hS := And.intro (BoxAt.new w b c l h t).1 (And.intro (BoxAt.new w b c l h t).2.1 (And.intro (BoxAt.new w b c l h t).2.2.1 (And.intro (BoxAt.new w b c l h t).2.2.2.1 (And.intro (BoxAt.new w b c l h t).2.2.2.2 hw))))
  clear hT ho F
  cases o
  all_goals
    first
      | rw [if_pos rfl] at HK HR
      | rw [if_neg (by decide)] at HK HR
    go_enter Tryd.func4, Tryd.ntmps4
    go_wp2_with fail
    go_region_held3 (fun w' => w'.cell? ⟨w.heap.size, 0, none⟩ = some (.int .i64 b) ∧ w'.cell? ⟨w.heap.size, 1, none⟩ = some (.int .i64 c) ∧ w'.cell? ⟨w.heap.size, 2, none⟩ = some (.int .i64 l) ∧ w'.cell? ⟨w.heap.size, 3, none⟩ = some (.string h) ∧ w'.cell? ⟨w.heap.size, 4, none⟩ = some (.string t) ∧ Below w.heap.size w w') (first | assumption | exact box_keep hS (Below.refl _ _).drew | exact box_keep (by assumption) (by assumption))
      (first | (go_at_call 13; (with_reducible refine (HK.out _).mono ?_); rintro e w' ⟨rfl, hb'⟩) | (go_at_call 15; (with_reducible refine (HR.out _).mono ?_); rintro e w' ⟨rfl, hb'⟩) | (go_at_call 14; (with_reducible refine (works_any _ (box_tabs (by assumption) HT.out)).mono ?_); rintro e w' ⟨rfl, hb'⟩))
    all_goals
      go_wp2_with fail
      rename_i HH
      go_ret
      exact ⟨rfl, HH.2.2.2.2.2⟩

theorem seams_same (b c l : Int) (h t : ByteArray) (b' c' l' : Int) (h' t' : ByteArray) (F : Fit b c l h t) (F' : Fit b' c' l' h' t') : ∃ C L E : Int,
    (∀ w, Tabs w → Calls Tryd.prog 16 #[.agg #[.int .i64 b, .int .i64 c, .int .i64 l, .string h, .string t], .agg #[.int .i64 b', .int .i64 c', .int .i64 l', .string h', .string t']] w fun e w' => e = .returned (.tuple #[.int .i64 C, .int .i64 L, .int .i64 E]) ∧ Below w.heap.size w w') ∧
    (∀ w, Calls Tryd.prog 17 #[.agg #[.int .i64 b, .int .i64 c, .int .i64 l, .string h, .string t], .agg #[.int .i64 b', .int .i64 c', .int .i64 l', .string h', .string t']] w fun e w' => e = .returned (.tuple #[.int .i64 C, .int .i64 L, .int .i64 E]) ∧ Below w.heap.size w w') := by
  have h1 := Seam_any b c l h t b' c' l' h' t' F F' _ _ rfl rfl _ _ rfl rfl
  have h2 := RSeam_any b c l h t b' c' l' h' t' F F' _ _ rfl rfl _ _ rfl rfl
  by_cases hn : (okB b c l (bs h) (bs t) && okB b' c' l' (bs h') (bs t')) = true
  · rw [if_pos hn] at h1 h2
    exact ⟨_, _, _, h1, h2⟩
  · rw [if_neg hn] at h1 h2
    exact ⟨_, _, _, h1, h2⟩

theorem joins_same (b c l : Int) (h t : ByteArray) (b' c' l' : Int) (h' t' : ByteArray) (F : Fit b c l h t) (F' : Fit b' c' l' h' t') : ∃ (rb rc rl : Int) (rh rt : ByteArray) (E : Int),
    (∀ w, Tabs w → Calls Tryd.prog 18 #[.agg #[.int .i64 b, .int .i64 c, .int .i64 l, .string h, .string t], .agg #[.int .i64 b', .int .i64 c', .int .i64 l', .string h', .string t']] w fun e w' => e = .returned (.tuple #[.agg #[.int .i64 rb, .int .i64 rc, .int .i64 rl, .string rh, .string rt], .int .i64 E]) ∧ Below w.heap.size w w') ∧
    (∀ w, Calls Tryd.prog 19 #[.agg #[.int .i64 b, .int .i64 c, .int .i64 l, .string h, .string t], .agg #[.int .i64 b', .int .i64 c', .int .i64 l', .string h', .string t']] w fun e w' => e = .returned (.tuple #[.agg #[.int .i64 rb, .int .i64 rc, .int .i64 rl, .string rh, .string rt], .int .i64 E]) ∧ Below w.heap.size w w') := by
  by_cases hn : (okB b c l (bs h) (bs t) && okB b' c' l' (bs h') (bs t')) = true
  · have hoo : okB b c l (bs h) (bs t) = true ∧ okB b' c' l' (bs h') (bs t') = true := by simpa using hn
    have h1 := join_yes b c l h t b' c' l' h' t' F F' hoo.1 hoo.2 _ _ rfl rfl
    have h2 := rjoin_yes b c l h t b' c' l' h' t' F F' hoo.1 hoo.2 _ _ rfl rfl
    unfold joinV zeroV at h1 h2
    split at h1
    · rename_i hx
      rw [if_pos hx] at h2
      exact ⟨_, _, _, _, _, _, h1, h2⟩
    · rename_i hx
      rw [if_neg hx] at h2
      split at h1
      · rename_i hy
        rw [if_pos hy] at h2
        exact ⟨_, _, _, _, _, _, h1, h2⟩
      · rename_i hy
        rw [if_neg hy] at h2
        exact ⟨_, _, _, _, _, _, h1, h2⟩
  · have hn' : (okB b c l (bs h) (bs t) && okB b' c' l' (bs h') (bs t')) = false := by simpa using hn
    have h1 := join_no b c l h t b' c' l' h' t' F F' hn'
    have h2 := rjoin_no b c l h t b' c' l' h' t' F F' hn'
    unfold zeroV at h1 h2
    exact ⟨_, _, _, _, _, _, h1, h2⟩

set_option maxHeartbeats 4000000 in
theorem tallyJoins_any (b c l : Int) (h t : ByteArray) (F : Fit b c l h t) (b' c' l' : Int) (h' t' : ByteArray) (F' : Fit b' c' l' h' t') (w : World) (hT : Tabs w) :
    Calls Tryd.prog 5 #[.agg #[.int .i64 b, .int .i64 c, .int .i64 l, .string h, .string t], .agg #[.int .i64 b', .int .i64 c', .int .i64 l', .string h', .string t']] w fun e w' => e = .returned (.bool true) ∧ Below w.heap.size w w' := by
  obtain ⟨C, L, E, s1, s2⟩ := seams_same b c l h t b' c' l' h' t' F F'
  obtain ⟨rb, rc, rl, rh, rt, E2, j1, j2⟩ := joins_same b c l h t b' c' l' h' t' F F'
  have S1 := Lib.hid s1
  have S2 := Lib.hid s2
  have J1 := Lib.hid j1
  have J2 := Lib.hid j2
  have HW := Lib.hid works_any
  have HT := Lib.hid hT
  clear hT s1 s2 j1 j2 F F'
  have hgd := guard_tal
  have heq := fun w => eq_tal rb rc rl rh rt rb rc rl rh rt w
  rw [show eqT rb rc rl rh rt rb rc rl rh rt = true from decide_eq_true ⟨rfl, rfl, rfl, rfl, rfl⟩] at heq
  obtain ⟨x1, x2, hb⟩ := boxes_new w b c l h t b' c' l' h' t'
  have X1 := Lib.hid x1
  have X2 := Lib.hid x2
  clear x1 x2
  go_enter Tryd.func5, Tryd.ntmps5
  go_wp2_with fail
  (with_reducible refine (S1.out _ (HT.out.below hb (Nat.le_refl _))).mono ?_)
  rintro e w1 ⟨rfl, hb1⟩
  have hb := nx hb hb1
  have X1 := Lib.hid (X1.out.keep hb1)
  have X2 := Lib.hid (X2.out.keep hb1)
  clear hb1
  obtain ⟨x0, x1, x2, x3, x4⟩ := X1.out
  obtain ⟨y0, y1, y2, y3, y4⟩ := X2.out
  go_wp2_with fail
  (with_reducible refine (S2.out _).mono ?_)
  rintro e w2 ⟨rfl, hb2⟩
  have hb := nx hb hb2
  have X1 := Lib.hid (X1.out.keep hb2)
  have X2 := Lib.hid (X2.out.keep hb2)
  clear hb2 x0 x1 x2 x3 x4 y0 y1 y2 y3 y4
  obtain ⟨x0, x1, x2, x3, x4⟩ := X1.out
  obtain ⟨y0, y1, y2, y3, y4⟩ := X2.out
  go_wp2_with fail
  (with_reducible refine (J1.out _ (HT.out.below hb (Nat.le_refl _))).mono ?_)
  rintro e w3 ⟨rfl, hb3⟩
  have hb := nx hb hb3
  have hal := (Below.refl w3.heap.size w3).alloc (Nat.le_refl _) (.cells #[.int .i64 rb, .int .i64 rc, .int .i64 rl, .string rh, .string rt] 23)
  have X1 := Lib.hid ((X1.out.keep hb3).keep hal)
  have X2 := Lib.hid ((X2.out.keep hb3).keep hal)
  have X3 := Lib.hid (BoxAt.new w3 rb rc rl rh rt)
  have hb := nx hb hal
  clear hb3 hal x0 x1 x2 x3 x4 y0 y1 y2 y3 y4
  obtain ⟨x0, x1, x2, x3, x4⟩ := X1.out
  obtain ⟨y0, y1, y2, y3, y4⟩ := X2.out
  go_wp2_with fail
  (with_reducible refine (J2.out _).mono ?_)
  rintro e w4 ⟨rfl, hb4⟩
  have hb := nx hb hb4
  have hal := (Below.refl w4.heap.size w4).alloc (Nat.le_refl _) (.cells #[.int .i64 rb, .int .i64 rc, .int .i64 rl, .string rh, .string rt] 23)
  have X3 := (X3.out.keep hb4).keep hal
  have X4 := BoxAt.new w4 rb rc rl rh rt
  have hb := nx hb hal
  clear hb4 hal x0 x1 x2 x3 x4 y0 y1 y2 y3 y4 
  obtain ⟨x0, x1, x2, x3, x4⟩ := X3
  obtain ⟨y0, y1, y2, y3, y4⟩ := X4
  go_wp2_with fail
  (with_reducible refine (HW.out _ (HT.out.below hb (Nat.le_refl _))).mono ?_)
  rintro e w5 ⟨rfl, hb5⟩
  have hb := nx hb hb5
  clear hb5
  go_wp2_with fail
  go_ret
  exact ⟨rfl, hb⟩
end Go.Proofs.YtpihmbdfhhjleaaDoor
