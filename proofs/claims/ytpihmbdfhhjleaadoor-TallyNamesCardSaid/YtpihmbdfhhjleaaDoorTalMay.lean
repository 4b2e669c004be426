/-
  The contracts of the document's May, Check, Seam.
-/
import Derived.Test.YtpihmbdfhhjleaaDoorTalOf
namespace Go.Proofs.YtpihmbdfhhjleaaDoor
open Go.RowKit

theorem eqT_comm (b c l : Int) (h t : ByteArray) (b' c' l' : Int) (h' t' : ByteArray) : eqT b c l h t b' c' l' h' t' = eqT b' c' l' h' t' b c l h t := by
  unfold eqT
  congr 1
  exact propext ⟨fun ⟨h1, h2, h3, h4, h5⟩ => ⟨h1.symm, h2.symm, h3.symm, h4.symm, h5.symm⟩, fun ⟨h1, h2, h3, h4, h5⟩ => ⟨h1.symm, h2.symm, h3.symm, h4.symm, h5.symm⟩⟩

set_option maxHeartbeats 2000000 in
theorem tmay_any (b c l : Int) (h t : ByteArray) (F : Fit b c l h t) (o : Bool) (ho : okB b c l (bs h) (bs t) = o) (w : World) :
    Calls Tryd.prog 34 #[.agg #[.int .i64 b, .int .i64 c, .int .i64 l, .string h, .string t]] w fun e w' => e = .returned (.bool o) ∧ Below w.heap.size w w' := by
  have hw := (Below.refl w.heap.size w).alloc (Nat.le_refl _) (.cells #[.int .i64 b, .int .i64 c, .int .i64 l, .string h, .string t] 23)
  obtain ⟨hb, hc, hl, hh, ht⟩ := F
  by_cases h0 : b < 0
  · have HE := Lib.hid (show o = false by rw [← ho]; unfold okB; rw [show okA b c l = false from decide_eq_false (by omega)]; rfl)
    clear ho
    go_enter Tryd.func34, Tryd.ntmps34
    go_wp2_with fail
    go_ret
    exact ⟨by rw [HE.out]; rfl, hw⟩
  · obtain ⟨q, hq⟩ : ∃ q, b.tdiv 4 = q := ⟨_, rfl⟩
    obtain ⟨m, hm⟩ : ∃ m, b.tmod 4 = m := ⟨_, rfl⟩
    have hqm : 4 * q + m = b ∧ 0 ≤ m ∧ m < 4 := by
      rw [← hq, ← hm, Int.tdiv_eq_ediv_of_nonneg (by omega), Int.tmod_eq_emod_of_nonneg (by omega)]; omega
    by_cases hA : c < 0 ∨ l < 0 ∨ c < l ∨ b < c ∨ c < q ∨ (q = c ∧ 0 < m)
    · have HE := Lib.hid (show o = false by rw [← ho]; unfold okB; rw [show okA b c l = false from decide_eq_false (by omega)]; rfl)
      clear ho
      by_cases h00 : c < 0
      ·
        go_enter Tryd.func34, Tryd.ntmps34
        go_wp2_with fail
        go_ret
        exact ⟨by rw [HE.out]; rfl, hw⟩
      by_cases h1 : l < 0
      ·
        go_enter Tryd.func34, Tryd.ntmps34
        go_wp2_with fail
        go_ret
        exact ⟨by rw [HE.out]; rfl, hw⟩
      by_cases h2 : c < l
      ·
        go_enter Tryd.func34, Tryd.ntmps34
        go_wp2_with fail
        go_ret
        exact ⟨by rw [HE.out]; rfl, hw⟩
      by_cases h3 : b < c
      ·
        go_enter Tryd.func34, Tryd.ntmps34
        go_wp2_with fail
        go_ret
        exact ⟨by rw [HE.out]; rfl, hw⟩
      by_cases h4 : c < q
      ·
        go_enter Tryd.func34, Tryd.ntmps34
        go_wp2_with fail
        go_ret
        exact ⟨by rw [HE.out]; rfl, hw⟩
      · have h5 : (q == c) = true := beq_iff_eq.2 (by omega)
        have h6 : 0 < m := by omega
        clear hA
        go_enter Tryd.func34, Tryd.ntmps34
        go_wp2_with fail
        go_ret
        exact ⟨by rw [HE.out]; rfl, hw⟩
    · have hOA : okA b c l = true := decide_eq_true (by omega)
      have h00 : ¬ c < 0 := by omega
      have h1 : ¬ l < 0 := by omega
      have h2 : ¬ c < l := by omega
      have h3 : ¬ b < c := by omega
      have h4 : ¬ c < q := by omega
      have key : ((q == c) = true ∧ decide (0 < m) = false) ∨ (q == c) = false := by
        by_cases hqc : q = c
        · exact .inl ⟨beq_iff_eq.2 hqc, decide_eq_false (by omega)⟩
        · exact .inr (beq_eq_false_iff_ne.2 hqc)
      clear hA
      by_cases h3b : 3 < b
      · have hn : min b 3 = 3 := by omega
        by_cases hH : (h.size : Int) = 3 ∧ (t.size : Int) = 3
        · obtain ⟨hH1, hH2⟩ := hH
          have hOH : okH b (bs h) (bs t) = true := decide_eq_true (by rw [← size_bs, ← size_bs, hn]; exact ⟨hH1, hH2⟩)
          have p1 : ((h.size : Int) != 3) = false := by simp [hH1]
          have p2 : ((t.size : Int) != 3) = false := by simp [hH2]
          by_cases h6 : 6 < b
          · have HE := Lib.hid (show o = true by rw [← ho]; unfold okB; rw [hOA, hOH, decide_eq_true h6]; rfl)
            clear ho hOA hOH hH1 hH2
            rcases key with ⟨m1, m2⟩ | m1
            all_goals
              go_enter Tryd.func34, Tryd.ntmps34
              go_wp2_with fail
              go_ret
              exact ⟨by rw [HE.out]; rfl, hw⟩
          ·
            have hHs : h.size ≤ 3 := by omega
            have hTs : t.size ≤ 3 := by omega
            have hbn : b ≤ 6 := by omega
            have h6' : decide (6 < b) = false := decide_eq_false h6
            obtain ⟨k, hk⟩ : ∃ k : Nat, 6 - b = (k : Int) := ⟨(6 - b).toNat, by omega⟩
            have hkt : k ≤ t.size := by omega
            have hki : (k : Int) ≤ (t.size : Int) := by omega
            have hk0 : (0 : Int) ≤ (k : Int) := by omega
            have hin := inner_bs b h t k (by rw [hn]; omega)
            have hcat : ¬ (9223372036854775807 < h.size + (t.size - k)) := by omega
            have hcat2 : ¬ (9223372036854775807 < h.size + (t.extract k t.size).size) := by rw [size_bs (t.extract k t.size), bs_drop, List.length_drop, ← size_bs]; omega
            have hsz : (h ++ t.extract k t.size).size ≤ 140737488351232 := by rw [ByteArray.size_append, size_bs (t.extract k t.size), bs_drop, List.length_drop, ← size_bs]; omega
            have hw2 : IntKind.i64.wrap (2 * 3) = 2 * 3 := by rw [IntKind.wrap_i64]; omega
            have hw3 : IntKind.i64.wrap (k : Int) = (k : Int) := by rw [IntKind.wrap_i64]; omega
            have hOF := fun w => rof_any (h ++ t.extract k t.size) hsz w
            rw [hin] at hOF
            have heq := fun w => eq_tal (inner b (bs h) (bs t)).length (countN (inner b (bs h) (bs t))) (linN (inner b (bs h) (bs t))) (sB (hd3 (inner b (bs h) (bs t)))) (sB (tl3 (inner b (bs h) (bs t)))) b c l h t w
            unfold tOf tV at hOF
            have hokk := eqT_okS b c l h t (inner b (bs h) (bs t))
            rw [eqT_comm] at hokk
            obtain ⟨r, hr⟩ : ∃ r, okS b c l (bs h) (bs t) (inner b (bs h) (bs t)) = r := ⟨_, rfl⟩
            rw [hokk, hr] at heq
            have HE := Lib.hid (show o = r by rw [← ho]; unfold okB; rw [hOA, hOH, h6', hr]; rfl)
            clear ho hOA hOH hokk hr hin hH1 hH2
            obtain ⟨sl, hsl⟩ : ∃ z : Nat, (inner b (bs h) (bs t)).length = z := ⟨_, rfl⟩
            obtain ⟨sc, hsc⟩ : ∃ z : Nat, countN (inner b (bs h) (bs t)) = z := ⟨_, rfl⟩
            obtain ⟨sn, hsn⟩ : ∃ z : Nat, linN (inner b (bs h) (bs t)) = z := ⟨_, rfl⟩
            obtain ⟨sh, hsh⟩ : ∃ z, sB (hd3 (inner b (bs h) (bs t))) = z := ⟨_, rfl⟩
            obtain ⟨st, hst⟩ : ∃ z, sB (tl3 (inner b (bs h) (bs t))) = z := ⟨_, rfl⟩
            rw [hsl, hsc, hsn, hsh, hst] at heq hOF
            clear hsl hsc hsn hsh hst
            have HOF := Lib.hid hOF
            have hgd := guard_tal
            clear hOF
            rcases key with ⟨m1, m2⟩ | m1
            all_goals
              go_enter Tryd.func34, Tryd.ntmps34
              go_wp2_with fail
              go_quiet (fail)
              all_goals go_wp2_with fail
              have hS : ((w.alloc (.cells #[.int .i64 b, .int .i64 c, .int .i64 l, .string h, .string t] 23)).drewN nq).cell? ⟨w.heap.size, 0, none⟩ = some (.int .i64 b) ∧ ((w.alloc (.cells #[.int .i64 b, .int .i64 c, .int .i64 l, .string h, .string t] 23)).drewN nq).cell? ⟨w.heap.size, 1, none⟩ = some (.int .i64 c) ∧ ((w.alloc (.cells #[.int .i64 b, .int .i64 c, .int .i64 l, .string h, .string t] 23)).drewN nq).cell? ⟨w.heap.size, 2, none⟩ = some (.int .i64 l) ∧ ((w.alloc (.cells #[.int .i64 b, .int .i64 c, .int .i64 l, .string h, .string t] 23)).drewN nq).cell? ⟨w.heap.size, 3, none⟩ = some (.string h) ∧ ((w.alloc (.cells #[.int .i64 b, .int .i64 c, .int .i64 l, .string h, .string t] 23)).drewN nq).cell? ⟨w.heap.size, 4, none⟩ = some (.string t) ∧ Below w.heap.size w ((w.alloc (.cells #[.int .i64 b, .int .i64 c, .int .i64 l, .string h, .string t] 23)).drewN nq) := ⟨(BoxAt.new w b c l h t).1, (BoxAt.new w b c l h t).2.1, (BoxAt.new w b c l h t).2.2.1, (BoxAt.new w b c l h t).2.2.2.1, (BoxAt.new w b c l h t).2.2.2.2, below_drewN hw _⟩
              go_region_held3 (fun w' => w'.cell? ⟨w.heap.size, 0, none⟩ = some (.int .i64 b) ∧ w'.cell? ⟨w.heap.size, 1, none⟩ = some (.int .i64 c) ∧ w'.cell? ⟨w.heap.size, 2, none⟩ = some (.int .i64 l) ∧ w'.cell? ⟨w.heap.size, 3, none⟩ = some (.string h) ∧ w'.cell? ⟨w.heap.size, 4, none⟩ = some (.string t) ∧ Below w.heap.size w w') (first | assumption | exact box_keep hS (Below.refl _ _).drew | exact box_keep (by assumption) (by assumption))
                (first | (go_at_call 12; (with_reducible refine (HOF.out _).mono ?_); rintro e w' ⟨rfl, hb'⟩))
              all_goals
                go_wp2_with fail
                rename_i HH
                go_ret
                exact ⟨by rw [HE.out]; rfl, HH.2.2.2.2.2⟩
        · have HE := Lib.hid (show o = false by rw [← ho]; unfold okB; rw [show okH b (bs h) (bs t) = false from decide_eq_false (by rw [← size_bs, ← size_bs, hn]; exact hH), Bool.false_and, Bool.and_false])
          clear ho hOA
          by_cases hH1 : (h.size : Int) = 3
          · have p1 : ((h.size : Int) != 3) = false := by simp [hH1]
            have p2 : ((t.size : Int) != 3) = true := bne_iff_ne.2 (fun e => hH ⟨hH1, e⟩)
            clear hH hH1
            rcases key with ⟨m1, m2⟩ | m1
            all_goals
              go_enter Tryd.func34, Tryd.ntmps34
              go_wp2_with fail
              go_ret
              exact ⟨by rw [HE.out]; rfl, hw⟩
          · have p1 : ((h.size : Int) != 3) = true := bne_iff_ne.2 hH1
            clear hH hH1
            rcases key with ⟨m1, m2⟩ | m1
            all_goals
              go_enter Tryd.func34, Tryd.ntmps34
              go_wp2_with fail
              go_ret
              exact ⟨by rw [HE.out]; rfl, hw⟩
      · have hn : min b 3 = b := by omega
        by_cases hH : (h.size : Int) = b ∧ (t.size : Int) = b
        · obtain ⟨hH1, hH2⟩ := hH
          have hOH : okH b (bs h) (bs t) = true := decide_eq_true (by rw [← size_bs, ← size_bs, hn]; exact ⟨hH1, hH2⟩)
          have p1 : ((h.size : Int) != b) = false := by simp [hH1]
          have p2 : ((t.size : Int) != b) = false := by simp [hH2]
          have h6 : ¬ 6 < b := by omega
          have hHs : h.size ≤ 3 := by omega
          have hTs : t.size ≤ 3 := by omega
          have hbn : b ≤ 6 := by omega
          have h6' : decide (6 < b) = false := decide_eq_false h6
          obtain ⟨k, hk⟩ : ∃ k : Nat, 2 * b - b = (k : Int) := ⟨(2 * b - b).toNat, by omega⟩
          have hkt : k ≤ t.size := by omega
          have hki : (k : Int) ≤ (t.size : Int) := by omega
          have hk0 : (0 : Int) ≤ (k : Int) := by omega
          have hin := inner_bs b h t k (by rw [hn]; omega)
          have hcat : ¬ (9223372036854775807 < h.size + (t.size - k)) := by omega
          have hcat2 : ¬ (9223372036854775807 < h.size + (t.extract k t.size).size) := by rw [size_bs (t.extract k t.size), bs_drop, List.length_drop, ← size_bs]; omega
          have hsz : (h ++ t.extract k t.size).size ≤ 140737488351232 := by rw [ByteArray.size_append, size_bs (t.extract k t.size), bs_drop, List.length_drop, ← size_bs]; omega
          have hw2 : IntKind.i64.wrap (2 * b) = 2 * b := by rw [IntKind.wrap_i64]; omega
          have hw3 : IntKind.i64.wrap (k : Int) = (k : Int) := by rw [IntKind.wrap_i64]; omega
          have hOF := fun w => rof_any (h ++ t.extract k t.size) hsz w
          rw [hin] at hOF
          have heq := fun w => eq_tal (inner b (bs h) (bs t)).length (countN (inner b (bs h) (bs t))) (linN (inner b (bs h) (bs t))) (sB (hd3 (inner b (bs h) (bs t)))) (sB (tl3 (inner b (bs h) (bs t)))) b c l h t w
          unfold tOf tV at hOF
          have hokk := eqT_okS b c l h t (inner b (bs h) (bs t))
          rw [eqT_comm] at hokk
          obtain ⟨r, hr⟩ : ∃ r, okS b c l (bs h) (bs t) (inner b (bs h) (bs t)) = r := ⟨_, rfl⟩
          rw [hokk, hr] at heq
          have HE := Lib.hid (show o = r by rw [← ho]; unfold okB; rw [hOA, hOH, h6', hr]; rfl)
          clear ho hOA hOH hokk hr hin hH1 hH2
          obtain ⟨sl, hsl⟩ : ∃ z : Nat, (inner b (bs h) (bs t)).length = z := ⟨_, rfl⟩
          obtain ⟨sc, hsc⟩ : ∃ z : Nat, countN (inner b (bs h) (bs t)) = z := ⟨_, rfl⟩
          obtain ⟨sn, hsn⟩ : ∃ z : Nat, linN (inner b (bs h) (bs t)) = z := ⟨_, rfl⟩
          obtain ⟨sh, hsh⟩ : ∃ z, sB (hd3 (inner b (bs h) (bs t))) = z := ⟨_, rfl⟩
          obtain ⟨st, hst⟩ : ∃ z, sB (tl3 (inner b (bs h) (bs t))) = z := ⟨_, rfl⟩
          rw [hsl, hsc, hsn, hsh, hst] at heq hOF
          clear hsl hsc hsn hsh hst
          have HOF := Lib.hid hOF
          have hgd := guard_tal
          clear hOF
          rcases key with ⟨m1, m2⟩ | m1
          all_goals
            go_enter Tryd.func34, Tryd.ntmps34
            go_wp2_with fail
            go_quiet (fail)
            all_goals go_wp2_with fail
            have hS : ((w.alloc (.cells #[.int .i64 b, .int .i64 c, .int .i64 l, .string h, .string t] 23)).drewN nq).cell? ⟨w.heap.size, 0, none⟩ = some (.int .i64 b) ∧ ((w.alloc (.cells #[.int .i64 b, .int .i64 c, .int .i64 l, .string h, .string t] 23)).drewN nq).cell? ⟨w.heap.size, 1, none⟩ = some (.int .i64 c) ∧ ((w.alloc (.cells #[.int .i64 b, .int .i64 c, .int .i64 l, .string h, .string t] 23)).drewN nq).cell? ⟨w.heap.size, 2, none⟩ = some (.int .i64 l) ∧ ((w.alloc (.cells #[.int .i64 b, .int .i64 c, .int .i64 l, .string h, .string t] 23)).drewN nq).cell? ⟨w.heap.size, 3, none⟩ = some (.string h) ∧ ((w.alloc (.cells #[.int .i64 b, .int .i64 c, .int .i64 l, .string h, .string t] 23)).drewN nq).cell? ⟨w.heap.size, 4, none⟩ = some (.string t) ∧ Below w.heap.size w ((w.alloc (.cells #[.int .i64 b, .int .i64 c, .int .i64 l, .string h, .string t] 23)).drewN nq) := ⟨(BoxAt.new w b c l h t).1, (BoxAt.new w b c l h t).2.1, (BoxAt.new w b c l h t).2.2.1, (BoxAt.new w b c l h t).2.2.2.1, (BoxAt.new w b c l h t).2.2.2.2, below_drewN hw _⟩
            go_region_held3 (fun w' => w'.cell? ⟨w.heap.size, 0, none⟩ = some (.int .i64 b) ∧ w'.cell? ⟨w.heap.size, 1, none⟩ = some (.int .i64 c) ∧ w'.cell? ⟨w.heap.size, 2, none⟩ = some (.int .i64 l) ∧ w'.cell? ⟨w.heap.size, 3, none⟩ = some (.string h) ∧ w'.cell? ⟨w.heap.size, 4, none⟩ = some (.string t) ∧ Below w.heap.size w w') (first | assumption | exact box_keep hS (Below.refl _ _).drew | exact box_keep (by assumption) (by assumption))
              (first | (go_at_call 12; (with_reducible refine (HOF.out _).mono ?_); rintro e w' ⟨rfl, hb'⟩))
            all_goals
              go_wp2_with fail
              rename_i HH
              go_ret
              exact ⟨by rw [HE.out]; rfl, HH.2.2.2.2.2⟩
        · have HE := Lib.hid (show o = false by rw [← ho]; unfold okB; rw [show okH b (bs h) (bs t) = false from decide_eq_false (by rw [← size_bs, ← size_bs, hn]; exact hH), Bool.false_and, Bool.and_false])
          clear ho hOA
          by_cases hH1 : (h.size : Int) = b
          · have p1 : ((h.size : Int) != b) = false := by simp [hH1]
            have p2 : ((t.size : Int) != b) = true := bne_iff_ne.2 (fun e => hH ⟨hH1, e⟩)
            clear hH hH1
            rcases key with ⟨m1, m2⟩ | m1
            all_goals
              go_enter Tryd.func34, Tryd.ntmps34
              go_wp2_with fail
              go_ret
              exact ⟨by rw [HE.out]; rfl, hw⟩
          · have p1 : ((h.size : Int) != b) = true := bne_iff_ne.2 hH1
            clear hH hH1
            rcases key with ⟨m1, m2⟩ | m1
            all_goals
              go_enter Tryd.func34, Tryd.ntmps34
              go_wp2_with fail
              go_ret
              exact ⟨by rw [HE.out]; rfl, hw⟩
end Go.Proofs.YtpihmbdfhhjleaaDoor
