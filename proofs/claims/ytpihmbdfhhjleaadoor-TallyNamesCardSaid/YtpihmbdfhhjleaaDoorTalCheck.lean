/-
  The contracts of Check: which tallies may be.
-/
import Derived.Test.YtpihmbdfhhjleaaDoorTalEq
import Derived.Deep.QuietTactic
import Derived.BigQuiet
import Derived.Deep.RegionHeld3
import Derived.Deep.DeepCutAuto
namespace Go.Proofs.YtpihmbdfhhjleaaDoor
open Go.RowKit

theorem box_keep {w W W' : World} {g : Nat} {v0 v1 v2 v3 v4 : Value}
    (H : W.cell? ⟨g, 0, none⟩ = some v0 ∧ W.cell? ⟨g, 1, none⟩ = some v1 ∧ W.cell? ⟨g, 2, none⟩ = some v2 ∧ W.cell? ⟨g, 3, none⟩ = some v3 ∧ W.cell? ⟨g, 4, none⟩ = some v4 ∧ Below w.heap.size w W) (hb : Below W.heap.size W W') :
    W'.cell? ⟨g, 0, none⟩ = some v0 ∧ W'.cell? ⟨g, 1, none⟩ = some v1 ∧ W'.cell? ⟨g, 2, none⟩ = some v2 ∧ W'.cell? ⟨g, 3, none⟩ = some v3 ∧ W'.cell? ⟨g, 4, none⟩ = some v4 ∧ Below w.heap.size w W' :=
  ⟨cell_keep H.1 hb, cell_keep H.2.1 hb, cell_keep H.2.2.1 hb, cell_keep H.2.2.2.1 hb, cell_keep H.2.2.2.2.1 hb, nx H.2.2.2.2.2 hb⟩

/-- Check's answer -/
def okE (b c l : Int) (h t : Bs) : Int := if okB b c l h t = true then 0 else 30
theorem okE_f {b c l : Int} {h t : Bs} (e : okA b c l = false) : okE b c l h t = 30 := by unfold okE okB; rw [e]; rfl
theorem okE_h {b c l : Int} {h t : Bs} (e : okH b h t = false) : okE b c l h t = 30 := by unfold okE okB; rw [e, Bool.false_and, Bool.and_false]; rfl

set_option maxHeartbeats 1000000 in
theorem check_any (b c l : Int) (h t : ByteArray) (hb : -9223372036854775808 ≤ b ∧ b ≤ 9223372036854775807) (hc : -9223372036854775808 ≤ c ∧ c ≤ 9223372036854775807) (hl : -9223372036854775808 ≤ l ∧ l ≤ 9223372036854775807)
    (hh : h.size ≤ 140737488351232) (ht : t.size ≤ 140737488351232) (E : Int) (hE : okE b c l (bs h) (bs t) = E) (w : World) :
    Calls Tryd.prog 13 #[tV b c l h t] w fun e w' => e = .returned (.int .i64 E) ∧ Below w.heap.size w w' := by
  unfold tV
  have hw := (Below.refl w.heap.size w).alloc (Nat.le_refl _) (.cells #[.int .i64 b, .int .i64 c, .int .i64 l, .string h, .string t] 23)
  by_cases h0 : b < 0
  · have e30 : 30 = E := by rw [← hE, okE_f (by unfold okA; exact decide_eq_false (by omega))]
    have hm : decide (0 < b.tmod 4) = false := decide_eq_false (by have h9 := Int.neg_tmod (-b) 4; rw [Int.neg_neg] at h9; rw [h9, Int.tmod_eq_emod_of_nonneg (by omega)]; omega)
    clear hE
    go_enter Tryd.func13, Tryd.ntmps13
    go_wp2_with fail
    go_ret
    exact ⟨by rw [← e30]; rfl, hw⟩
  · obtain ⟨q, hq⟩ : ∃ q, b.tdiv 4 = q := ⟨_, rfl⟩
    obtain ⟨m, hm⟩ : ∃ m, b.tmod 4 = m := ⟨_, rfl⟩
    have hqm : 4 * q + m = b ∧ 0 ≤ m ∧ m < 4 := by
      rw [← hq, ← hm, Int.tdiv_eq_ediv_of_nonneg (by omega), Int.tmod_eq_emod_of_nonneg (by omega)]; omega
    obtain ⟨K, hK⟩ : ∃ K, K = (if 0 < m then q + 1 else q) := ⟨_, rfl⟩
    have hKb : b ≤ 4 * c ↔ K ≤ c := by rw [hK]; split <;> omega
    by_cases hA : l < 0 ∨ c < l ∨ b < c ∨ c < K
    · have e30 : 30 = E := by rw [← hE, okE_f (by unfold okA; exact decide_eq_false (by omega))]
      clear hE
      by_cases hm0 : 0 < m
      all_goals
        by_cases h1 : l < 0
        · go_enter Tryd.func13, Tryd.ntmps13
          go_wp2_with fail
          go_ret
          exact ⟨by rw [← e30]; rfl, hw⟩
        · by_cases h2 : c < l
          · go_enter Tryd.func13, Tryd.ntmps13
            go_wp2_with fail
            go_ret
            exact ⟨by rw [← e30]; rfl, hw⟩
          · by_cases h3 : b < c
            · go_enter Tryd.func13, Tryd.ntmps13
              go_wp2_with fail
              go_ret
              exact ⟨by rw [← e30]; rfl, hw⟩
            · have h4 : c < K := by omega
              first
                | rw [if_pos hm0] at hK
                | rw [if_neg hm0] at hK
              rw [hK] at h4
              clear hA hKb hK
              go_enter Tryd.func13, Tryd.ntmps13
              go_wp2_with fail
              go_ret
              exact ⟨by rw [← e30]; rfl, hw⟩
    · have hOA : okA b c l = true := decide_eq_true (by omega)
      have h1 : ¬ l < 0 := by omega
      have h2 : ¬ c < l := by omega
      have h3 : ¬ b < c := by omega
      have h4 : ¬ c < K := by omega
      obtain ⟨n, hn⟩ : ∃ n : Nat, min b 3 = (n : Int) := ⟨(min b 3).toNat, by omega⟩
      have hn3 : n ≤ 3 ∧ (n : Int) ≤ b := by omega
      by_cases hm0 : 0 < m
      all_goals
        first
          | rw [if_pos hm0] at hK
          | rw [if_neg hm0] at hK
        rw [hK] at h4
        clear hA hKb hK
        by_cases hH : (h.size : Int) = n ∧ (t.size : Int) = n
        · obtain ⟨hH1, hH2⟩ := hH
          have hOH : okH b (bs h) (bs t) = true := decide_eq_true (by rw [← size_bs, ← size_bs, hn]; exact ⟨hH1, hH2⟩)
          have p1 : ((h.size : Int) != (n : Int)) = false := by simp [hH1]
          have p2 : ((t.size : Int) != (n : Int)) = false := by simp [hH2]
          by_cases h6 : 6 < b
          · have HE := Lib.hid (show E = 0 by rw [← hE]; unfold okE okB; rw [hOA, hOH, decide_eq_true h6]; rfl)
            have h6' : decide (b ≤ 6) = false := decide_eq_false (by omega)
            clear hE hOA hOH hH1 hH2
            go_enter Tryd.func13, Tryd.ntmps13
            go_wp2_with fail
            go_quiet (fail)
            all_goals go_wp2_with fail
            go_ret
            exact ⟨by rw [HE.out]; rfl, below_drewN hw _⟩
          · have hHs : h.size ≤ 3 := by omega
            have hTs : t.size ≤ 3 := by omega
            have hbn : b ≤ 6 := by omega
            have h6' : decide (b ≤ 6) = true := decide_eq_true hbn
            obtain ⟨k, hk⟩ : ∃ k : Nat, 2 * (n : Int) - b = (k : Int) := ⟨(2 * (n : Int) - b).toNat, by omega⟩
            have hkt : k ≤ t.size := by omega
            have hki : (k : Int) ≤ (t.size : Int) := by omega
            have hk0 : (0 : Int) ≤ (k : Int) := by omega
            have hcat : ¬ (9223372036854775807 < h.size + (t.size - k)) := by omega
            have hcat2 : ¬ (9223372036854775807 < h.size + (t.extract k t.size).size) := by rw [size_bs (t.extract k t.size), bs_drop, List.length_drop, ← size_bs]; omega
            clear hH1 hH2
            have hw2 : IntKind.i64.wrap (2 * (n : Int)) = 2 * (n : Int) := by rw [IntKind.wrap_i64]; omega
            have hw3 : IntKind.i64.wrap (k : Int) = (k : Int) := by rw [IntKind.wrap_i64]; omega
            have hin := inner_bs b h t k (by rw [hn, hk]; rfl)
            have hsz : (h ++ t.extract k t.size).size ≤ 140737488351232 := by rw [ByteArray.size_append, size_bs (t.extract k t.size), bs_drop, List.length_drop, ← size_bs]; omega
            have hOF := fun w => tof_any (h ++ t.extract k t.size) (by omega) w
            rw [hin] at hOF
            have heq := fun w => eq_tal b c l h t (inner b (bs h) (bs t)).length (countN (inner b (bs h) (bs t))) (linN (inner b (bs h) (bs t))) (sB (hd3 (inner b (bs h) (bs t)))) (sB (tl3 (inner b (bs h) (bs t)))) w
            unfold tOf tV at hOF
            have hokk := eqT_okS b c l h t (inner b (bs h) (bs t))
            obtain ⟨o, ho⟩ : ∃ o, okS b c l (bs h) (bs t) (inner b (bs h) (bs t)) = o := ⟨_, rfl⟩
            rw [hokk, ho] at heq
            have HE := Lib.hid (show E = (if o = true then 0 else 30) by rw [← hE]; unfold okE okB; rw [hOA, hOH, decide_eq_false h6, ho]; rfl)
            clear hE hOA hOH hokk ho hin
            obtain ⟨sl, hsl⟩ : ∃ z : Nat, (inner b (bs h) (bs t)).length = z := ⟨_, rfl⟩
            obtain ⟨sc, hsc⟩ : ∃ z : Nat, countN (inner b (bs h) (bs t)) = z := ⟨_, rfl⟩
            obtain ⟨sn, hsn⟩ : ∃ z : Nat, linN (inner b (bs h) (bs t)) = z := ⟨_, rfl⟩
            obtain ⟨sh, hsh⟩ : ∃ z, sB (hd3 (inner b (bs h) (bs t))) = z := ⟨_, rfl⟩
            obtain ⟨st, hst⟩ : ∃ z, sB (tl3 (inner b (bs h) (bs t))) = z := ⟨_, rfl⟩
            rw [hsl, hsc, hsn, hsh, hst] at heq hOF
            clear hsl hsc hsn hsh hst
            have HOF := Lib.hid hOF
            have hgd := guard_tal
            clear hOF
            go_enter Tryd.func13, Tryd.ntmps13
            go_wp2_with fail
            go_region_held3 (fun w' => w'.cell? ⟨w.heap.size, 0, none⟩ = some (.int .i64 b) ∧ w'.cell? ⟨w.heap.size, 1, none⟩ = some (.int .i64 c) ∧ w'.cell? ⟨w.heap.size, 2, none⟩ = some (.int .i64 l) ∧ w'.cell? ⟨w.heap.size, 3, none⟩ = some (.string h) ∧ w'.cell? ⟨w.heap.size, 4, none⟩ = some (.string t) ∧ Below w.heap.size w w') (first | assumption | exact ⟨(BoxAt.new w b c l h t).1, (BoxAt.new w b c l h t).2.1, (BoxAt.new w b c l h t).2.2.1, (BoxAt.new w b c l h t).2.2.2.1, (BoxAt.new w b c l h t).2.2.2.2, hw.drew⟩ | exact box_keep (by assumption) (by assumption))
              (first | (go_at_call 11; (with_reducible refine (HOF.out _).mono ?_); rintro e w' ⟨rfl, hb'⟩))
            all_goals go_wp2_with fail
            all_goals
              rename_i H1 H2
              go_ret
              refine ⟨?_, H1.2.2.2.2.2⟩
              rw [HE.out]
              cases o
              · first | rfl | (exact absurd H2 (by decide))
              · first | rfl | (exact absurd H2 (by decide))
        · have e30 : 30 = E := by rw [← hE, okE_h (decide_eq_false (by rw [← size_bs, ← size_bs, hn]; exact hH))]
          clear hE hOA
          by_cases hH1 : (h.size : Int) = n
          · have p1 : ((h.size : Int) != (n : Int)) = false := by simp [hH1]
            have p2 : ((t.size : Int) != (n : Int)) = true := bne_iff_ne.2 (fun e => hH ⟨hH1, e⟩)
            clear hH hH1
            go_enter Tryd.func13, Tryd.ntmps13
            go_wp2_with fail
            go_ret
            exact ⟨by rw [← e30]; rfl, hw⟩
          · have p1 : ((h.size : Int) != (n : Int)) = true := bne_iff_ne.2 hH1
            clear hH hH1
            go_enter Tryd.func13, Tryd.ntmps13
            go_wp2_with fail
            go_ret
            exact ⟨by rw [← e30]; rfl, hw⟩
end Go.Proofs.YtpihmbdfhhjleaaDoor
