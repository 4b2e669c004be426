/-
  The walk of the law KindsParts: kinds do not overlap; what is folded stays.
-/
import Derived.Test.YtkknmbkfiiidmaaDoorKAwake
import Derived.Test.YtkknmbkfiiidmaaDoorBackLaw
namespace Go.Proofs.YtkknmbkfiiidmaaDoor
open Go.RowKit

/-- each row of the folds: runes that may be, none of them FFFD, before and after -/
def rowMay (q : Int × Int × Int × Int) : Bool :=
  clear' [(55296, 57343), (65533, 65533)] q.1 q.2.1 && clear' [(55296, 57343), (65533, 65533)] (q.1 + q.2.2.2) (q.2.1 + q.2.2.2) && decide (0 ≤ q.1) && decide (0 ≤ q.1 + q.2.2.2) && decide (q.2.1 ≤ 1114111) && decide (q.2.1 + q.2.2.2 ≤ 1114111)
theorem rows_may : ∀ q ∈ foldL, rowMay q = true := by decide +kernel
theorem may_of {a b r : Int} (h : clear' [(55296, 57343), (65533, 65533)] a b = true) (h0 : 0 ≤ a) (h1 : b ≤ 1114111) (h2 : a ≤ r) (h3 : r ≤ b) : mayB r = true ∧ r ≠ 65533 := by
  simp [clear'] at h
  exact ⟨mayB_t (by omega), by omega⟩
theorem fold_may (r : Int) : foldZ r = r ∨ ((mayB r = true ∧ r ≠ 65533) ∧ (mayB (foldZ r) = true ∧ foldZ r ≠ 65533)) := by
  rcases fold_cases r with ⟨h, _⟩ | ⟨q, hq, hf, h⟩
  · exact .inl h
  · have hk := rows_may q hq
    obtain ⟨h1, h2, _⟩ := fit_iff.1 hf
    unfold rowMay at hk
    simp only [Bool.and_eq_true, decide_eq_true_eq] at hk
    obtain ⟨⟨⟨⟨⟨k1, k2⟩, k3⟩, k4⟩, k5⟩, k6⟩ := hk
    rw [h]
    exact .inr ⟨may_of k1 k3 k5 h1 h2, may_of k2 k4 k6 (by omega) (by omega)⟩
theorem enc_bad_iff (r : Int) : Utf8.encode r = ⟨#[239, 191, 189]⟩ ↔ fixR r = 65533 := by
  have e0 : (⟨#[239, 191, 189]⟩ : ByteArray) = Utf8.encode 65533 := by decide +kernel
  rw [e0]
  constructor
  · intro h
    have h2 := congrArg bs h
    rw [enc_model, enc_model] at h2
    unfold fixR
    by_cases hm : mayB r = true
    · rw [if_pos hm]
      have d1 := dec_enc r hm []
      have d2 := dec_enc 65533 mayB_bad []
      rw [h2, d2] at d1
      have := congrArg Prod.fst d1
      simp only at this
      have h0 : 0 ≤ r := by unfold mayB at hm; simp at hm; omega
      omega
    · rw [if_neg hm]
  · intro h
    apply bs_inj
    rw [enc_model, enc_model, ← encRune_fix r, h]
theorem fold_bad (r : Int) : (Utf8.encode (foldZ r) = ⟨#[239, 191, 189]⟩) ↔ (Utf8.encode r = ⟨#[239, 191, 189]⟩) := by
  rcases fold_may r with h | ⟨⟨h1, h2⟩, h3, h4⟩
  · rw [h]
  · rw [enc_bad_iff, enc_bad_iff]
    unfold fixR
    rw [if_pos h1, if_pos h3]
    exact ⟨fun h => absurd h h4, fun h => absurd h h2⟩
theorem enc_size (r : Int) : (Utf8.encode r).size ≤ 4 := by
  rw [size_bs, enc_model, encodeRune_len]
  exact (Lib.encodeRuneZ_length r).2

theorem toList_is (S : ByteArray) : (S.toList == [239, 191, 189]) = decide (S = ⟨#[239, 191, 189]⟩) := by
  rw [ByteArray.toList_eq]
  by_cases h : S = ⟨#[239, 191, 189]⟩
  · subst h; decide
  · rw [decide_eq_false h]
    refine beq_eq_false_iff_ne.2 (fun e => h ?_)
    obtain ⟨⟨l⟩⟩ := S
    simp only at e
    rw [e]

set_option maxHeartbeats 4000000 in
theorem kindsParts_any (r : Int) (_hr : -2147483648 ≤ r ∧ r ≤ 2147483647) (w : World) (hT : Tabs w) : Calls Tryd.prog 6 #[.int .i32 r] w fun e w' => e = .returned (.bool true) ∧ Below w.heap.size w w' := by
  have HAW := Lib.hid (kawake_any w hT)
  have HB := Lib.hid (fun w => blank_any r w)
  have HW := Lib.hid (fun w => word_any r w)
  have HE := Lib.hid (fun w => ends_any r w)
  have HD := Lib.hid (fun w => width_any r w)
  have HF := Lib.hid (fun w => fold_any r w)
  have HB2 := Lib.hid (fun w => blank_any (foldZ r) w)
  have HF2 := Lib.hid (fun w => fold_any (foldZ r) w)
  have HD2 := Lib.hid (fun w => width_any (foldZ r) w)
  rw [(fold_kind r).1] at HB2
  rw [(fold_kind r).2] at HD2
  rw [fold_fold r] at HF2
  have hbw := blank_word r
  have heb := ends_blank r
  have hwl := width_le r
  have hsz := enc_size (foldZ r)
  have hbad := fold_bad r
  obtain ⟨f, hf⟩ : ∃ f, foldZ r = f := ⟨_, rfl⟩
  obtain ⟨b1, hb1⟩ : ∃ b, blankB r = b := ⟨_, rfl⟩
  obtain ⟨b2, hb2⟩ : ∃ b, wordB r = b := ⟨_, rfl⟩
  obtain ⟨b3, hb3⟩ : ∃ b, endsB r = b := ⟨_, rfl⟩
  obtain ⟨v, hv⟩ : ∃ v, widthN r = v := ⟨_, rfl⟩
  rw [hf] at HF HB2 HF2 HD2 hsz hbad
  rw [hb1] at HB HB2 hbw heb
  rw [hb2] at HW hbw
  rw [hb3] at HE heb
  rw [hv] at HD HD2 heb hwl
  obtain ⟨S1, hS1⟩ : ∃ S, Utf8.encode f = S := ⟨_, rfl⟩
  obtain ⟨S2, hS2⟩ : ∃ S, Utf8.encode r = S := ⟨_, rfl⟩
  rw [hS1] at hsz hbad
  rw [hS2] at hbad
  have hl1 := toList_is S1
  have hl2 := toList_is S2
  have hv2 : (v : Int) ≤ 2 := by omega
  have hsz2 : (S1.size : Int) ≤ 4 := by omega
  clear hT hf hb1 hb2 hb3 hv
  by_cases hx : S1 = ⟨#[239, 191, 189]⟩
  · have hy := hbad.1 hx
    rw [decide_eq_true hx] at hl1
    rw [decide_eq_true hy] at hl2
    clear hx hy hbad
    go_enter Tryd.func6, Tryd.ntmps6
    go_wp2_with (first
      | (go_at_call 22; (with_reducible refine HAW.out.mono ?_); rintro e w1 ⟨rfl, hbel⟩)
      | (go_at_call 12; (with_reducible refine (HB.out _).mono ?_); rintro e w2 ⟨rfl, rfl⟩)
      | (go_at_call 14; (with_reducible refine (HW.out _).mono ?_); rintro e w2 ⟨rfl, rfl⟩)
      | (go_at_call 16; (with_reducible refine (HE.out _).mono ?_); rintro e w2 ⟨rfl, rfl⟩)
      | (go_at_call 18; (with_reducible refine (HD.out _).mono ?_); rintro e w2 ⟨rfl, rfl⟩)
      | (go_at_call 20; (with_reducible refine (HF.out _).mono ?_); rintro e w2 ⟨rfl, rfl⟩)
      | (go_at_call 20; (with_reducible refine (HF2.out _).mono ?_); rintro e w2 ⟨rfl, rfl⟩)
      | (go_at_call 12; (with_reducible refine (HB2.out _).mono ?_); rintro e w2 ⟨rfl, rfl⟩)
      | (go_at_call 18; (with_reducible refine (HD2.out _).mono ?_); rintro e w2 ⟨rfl, rfl⟩))
    all_goals go_ret
    all_goals exact ⟨rfl, hbel⟩
  · have hy : ¬ S2 = ⟨#[239, 191, 189]⟩ := fun h => hx (hbad.2 h)
    rw [decide_eq_false hx] at hl1
    rw [decide_eq_false hy] at hl2
    clear hx hy hbad
    go_enter Tryd.func6, Tryd.ntmps6
    go_wp2_with (first
      | (go_at_call 22; (with_reducible refine HAW.out.mono ?_); rintro e w1 ⟨rfl, hbel⟩)
      | (go_at_call 12; (with_reducible refine (HB.out _).mono ?_); rintro e w2 ⟨rfl, rfl⟩)
      | (go_at_call 14; (with_reducible refine (HW.out _).mono ?_); rintro e w2 ⟨rfl, rfl⟩)
      | (go_at_call 16; (with_reducible refine (HE.out _).mono ?_); rintro e w2 ⟨rfl, rfl⟩)
      | (go_at_call 18; (with_reducible refine (HD.out _).mono ?_); rintro e w2 ⟨rfl, rfl⟩)
      | (go_at_call 20; (with_reducible refine (HF.out _).mono ?_); rintro e w2 ⟨rfl, rfl⟩)
      | (go_at_call 20; (with_reducible refine (HF2.out _).mono ?_); rintro e w2 ⟨rfl, rfl⟩)
      | (go_at_call 12; (with_reducible refine (HB2.out _).mono ?_); rintro e w2 ⟨rfl, rfl⟩)
      | (go_at_call 18; (with_reducible refine (HD2.out _).mono ?_); rintro e w2 ⟨rfl, rfl⟩))
    all_goals go_ret
    all_goals exact ⟨rfl, hbel⟩
end Go.Proofs.YtkknmbkfiiidmaaDoor
