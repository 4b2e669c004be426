/-
  What is pending, by the document's answer (beginning, closed) and by the library's: one and the same; the contracts of the document's beginning and Pending.
-/
import Derived.Test.YtkknmbkfiiidmaaDoorClosed
namespace Go.Proofs.YtkknmbkfiiidmaaDoor
open Go.RowKit

theorem seqB_iff (l : Bs) : seqB l = true ↔ l ≠ [] ∧ rightR (Lib.decodeL l).1 (Lib.decodeL l).2 = true ∧ (Lib.decodeL l).2 = l.length := by
  unfold seqB
  rw [Bool.and_eq_true, Bool.and_eq_true, decide_eq_true_eq]
  cases l <;> simp

theorem rightR_two (r n : Nat) (hn : 2 ≤ n) : rightR (r : Int) n = true := by
  unfold rightR
  have : (n == 1) = false := by simp; omega
  simp [this]

theorem dec_ok2 {l : Bs} (h : Ok2 l.length (by' l 0) (by' l 1)) : Lib.decodeL l = (n2 (by' l 0) (by' l 1), 2) := by
  rcases dec_cases l with ⟨a, _⟩ | ⟨a, e⟩ | ⟨a, _⟩ | ⟨a, _⟩ | ⟨_, a, _, _, _⟩
  · have := h.1; omega
  · exact e
  · have := h.2.1; have := a.1; omega
  · have := h.2.1; have := a.1; omega
  · exact absurd h a
theorem dec_ok3 {l : Bs} (h : Ok3 l.length (by' l 0) (by' l 1) (by' l 2)) : Lib.decodeL l = (n3 (by' l 0) (by' l 1) (by' l 2), 3) := by
  rcases dec_cases l with ⟨a, _⟩ | ⟨a, _⟩ | ⟨a, e⟩ | ⟨a, _⟩ | ⟨_, _, a, _, _⟩
  · have := h.1; omega
  · have := h.1; have := a.2.1; omega
  · exact e
  · have := h.2.1; have := a.1; omega
  · exact absurd h a
theorem dec_ok4 {l : Bs} (h : Ok4 l.length (by' l 0) (by' l 1) (by' l 2) (by' l 3)) : Lib.decodeL l = (n4 (by' l 0) (by' l 1) (by' l 2) (by' l 3), 4) := by
  rcases dec_cases l with ⟨a, _⟩ | ⟨a, _⟩ | ⟨a, _⟩ | ⟨a, e⟩ | ⟨_, _, _, a, _⟩
  · have := h.1; omega
  · have := h.1; have := a.2.1; omega
  · have := h.1; have := a.2.1; omega
  · exact e
  · exact absurd h a

theorem closedB_ext : ∀ (m : Nat) (l e : Bs), (∀ b ∈ e, b.toNat ∈ nexts) → e.length ≤ m → seqB (l ++ e) = true → closedB l m = true
  | 0, l, e, _, h, hs => by
    have : e = [] := List.length_eq_zero_iff.1 (by omega)
    subst this
    rw [List.append_nil] at hs
    exact hs
  | m + 1, l, [], _, _, hs => by
    rw [List.append_nil] at hs
    unfold closedB
    rw [hs]; rfl
  | m + 1, l, b :: e, hb, h, hs => by
    unfold closedB
    rw [Bool.or_eq_true]
    right
    rw [List.any_eq_true]
    refine ⟨b.toNat, hb b (by simp), ?_⟩
    have e1 : UInt8.ofNat b.toNat = b := by simp
    rw [e1]
    exact closedB_ext m (l ++ [b]) e (fun x hx => hb x (by simp [hx])) (by simpa using h) (by simpa using hs)

theorem closedB_sound : ∀ (m : Nat) (l : Bs), closedB l m = true → ∃ e, seqB (l ++ e) = true
  | 0, l, h => ⟨[], by rw [List.append_nil]; exact h⟩
  | m + 1, l, h => by
    unfold closedB at h
    rw [Bool.or_eq_true] at h
    rcases h with h | h
    · exact ⟨[], by rw [List.append_nil]; exact h⟩
    · obtain ⟨b, _, hb⟩ := List.any_eq_true.1 h
      obtain ⟨e, he⟩ := closedB_sound m _ hb
      exact ⟨[UInt8.ofNat b] ++ e, by rw [← List.append_assoc]; exact he⟩

/-- a text with a right first character is full -/
theorem right_full {l : Bs} (hl : l ≠ []) (h : rightR (Lib.decodeL l).1 (Lib.decodeL l).2 = true) : fullB l = true := by
  have hn := wid_le l hl
  have hb := by_lt l 0
  unfold fullB fullN
  simp only [Bool.or_eq_true, decide_eq_true_eq]
  left; left
  rcases dec_cases l with ⟨a, e⟩ | ⟨a, e⟩ | ⟨a, e⟩ | ⟨a, e⟩ | ⟨_, _, _, _, e⟩ <;> rw [e] at hn h <;> simp only at hn
  · have : Lib.firstT (by' l 0) = 240 := by unfold Lib.firstT; rw [if_pos a]
    omega
  · rw [Lib.firstT_C2 ⟨a.1, a.2.1⟩]; omega
  · obtain ⟨a1, a2, _⟩ := a
    by_cases e1 : by' l 0 = 224
    · rw [Lib.firstT_E0 e1]; omega
    · by_cases e2 : by' l 0 = 237
      · rw [Lib.firstT_ED e2]; omega
      · rw [Lib.firstT_E1 (by omega)]; omega
  · obtain ⟨a1, a2, _, _, _, _, _, _, _, a9, a10⟩ := a
    by_cases e1 : by' l 0 = 240
    · rw [Lib.firstT_F0 e1]; omega
    · by_cases e2 : by' l 0 = 244
      · rw [Lib.firstT_F4 e2]; omega
      · rw [Lib.firstT_F1 (by unfold n4 at a10; omega)]; omega
  · cases h

/-- the beginning of a right sequence, and not the whole, is not full -/
theorem part_notfull {l e : Bs} (hl : l ≠ []) (he : e ≠ []) (h : seqB (l ++ e) = true) : fullB l = false := by
  obtain ⟨_, hr, hw⟩ := (seqB_iff _).1 h
  have h1 : 1 ≤ l.length := by cases l; contradiction; simp
  have h2 : 1 ≤ e.length := by cases e; contradiction; simp
  have hlen : (l ++ e).length = l.length + e.length := by simp
  have b0 : by' (l ++ e) 0 = by' l 0 := by_append_left _ _ _ h1
  have b1 : 1 < l.length → by' (l ++ e) 1 = by' l 1 := fun h => by_append_left _ _ _ h
  have b2 : 2 < l.length → by' (l ++ e) 2 = by' l 2 := fun h => by_append_left _ _ _ h
  unfold fullB fullN
  simp only [Bool.or_eq_false_iff, Bool.and_eq_false_iff, decide_eq_false_iff_not]
  rcases dec_cases (l ++ e) with ⟨a, q⟩ | ⟨a, q⟩ | ⟨a, q⟩ | ⟨a, q⟩ | ⟨_, _, _, _, q⟩ <;> rw [q] at hw hr <;> simp only at hw
  · omega
  · rw [b0] at a
    rw [Lib.firstT_C2 ⟨a.1, a.2.1⟩]
    exact ⟨⟨by omega, by omega⟩, by omega⟩
  · rw [b0] at a
    obtain ⟨a1, a2, a3, a4, a5, a6, a7, a8, a9⟩ := a
    unfold n3 at a8 a9
    by_cases e1 : by' l 0 = 224
    · rw [Lib.firstT_E0 e1]
      refine ⟨⟨by omega, ?_⟩, by omega⟩
      by_cases c : 1 < l.length
      · rw [b1 c] at *; right; exact ⟨by simp [Lib.accLo]; omega, by simp [Lib.accHi]; omega⟩
      · exact .inl c
    · by_cases e2 : by' l 0 = 237
      · rw [Lib.firstT_ED e2]
        refine ⟨⟨by omega, ?_⟩, by omega⟩
        by_cases c : 1 < l.length
        · rw [b1 c] at *; right; exact ⟨by simp [Lib.accLo]; omega, by simp [Lib.accHi]; omega⟩
        · exact .inl c
      · rw [Lib.firstT_E1 (by omega)]
        refine ⟨⟨by omega, ?_⟩, by omega⟩
        by_cases c : 1 < l.length
        · rw [b1 c] at *; right; exact ⟨by simp [Lib.accLo]; omega, by simp [Lib.accHi]; omega⟩
        · exact .inl c
  · rw [b0] at a
    obtain ⟨a1, a2, a3, a4, a5, a6, a7, a8, a9, a10, a11⟩ := a
    unfold n4 at a10 a11
    have c2 : ¬ 2 < l.length ∨ ¬ by' l 2 < 128 ∧ ¬ 191 < by' l 2 := by
      by_cases c : 2 < l.length
      · rw [b2 c] at *; right; omega
      · exact .inl c
    by_cases e1 : by' l 0 = 240
    · rw [Lib.firstT_F0 e1]
      refine ⟨⟨by omega, ?_⟩, c2⟩
      by_cases c : 1 < l.length
      · rw [b1 c] at *; right; exact ⟨by simp [Lib.accLo]; omega, by simp [Lib.accHi]; omega⟩
      · exact .inl c
    · by_cases e2 : by' l 0 = 244
      · rw [Lib.firstT_F4 e2]
        refine ⟨⟨by omega, ?_⟩, c2⟩
        by_cases c : 1 < l.length
        · rw [b1 c] at *; right; exact ⟨by simp [Lib.accLo]; omega, by simp [Lib.accHi]; omega⟩
        · exact .inl c
      · rw [Lib.firstT_F1 (by omega)]
        refine ⟨⟨by omega, ?_⟩, c2⟩
        by_cases c : 1 < l.length
        · rw [b1 c] at *; right; exact ⟨by simp [Lib.accLo]; omega, by simp [Lib.accHi]; omega⟩
        · exact .inl c
  · cases hr

theorem seq_of2 {t : Bs} (hl : t.length = 2) (h : Ok2 t.length (by' t 0) (by' t 1)) : seqB t = true := by
  rw [seqB_iff, dec_ok2 h]
  exact ⟨(by intro e; rw [e] at hl; cases hl), rightR_two _ _ (by omega), hl.symm⟩
theorem seq_of3 {t : Bs} (hl : t.length = 3) (h : Ok3 t.length (by' t 0) (by' t 1) (by' t 2)) : seqB t = true := by
  rw [seqB_iff, dec_ok3 h]
  exact ⟨(by intro e; rw [e] at hl; cases hl), rightR_two _ _ (by omega), hl.symm⟩
theorem seq_of4 {t : Bs} (hl : t.length = 4) (h : Ok4 t.length (by' t 0) (by' t 1) (by' t 2) (by' t 3)) : seqB t = true := by
  rw [seqB_iff, dec_ok4 h]
  exact ⟨(by intro e; rw [e] at hl; cases hl), rightR_two _ _ (by omega), hl.symm⟩

theorem complete_C2 {l : Bs} (hl : 1 ≤ l.length) (hc : 194 ≤ by' l 0 ∧ by' l 0 < 224) (h : fullB l = false) : closedB l 3 = true := by
  unfold fullB fullN at h
  simp only [Bool.or_eq_false_iff, Bool.and_eq_false_iff, decide_eq_false_iff_not] at h
  obtain ⟨⟨h1, h2⟩, h3⟩ := h
  rw [Lib.firstT_C2 hc] at h1 h2
  rw [show Lib.accLo (2 / 16) = 128 from rfl, show Lib.accHi (2 / 16) = 191 from rfl] at h2
  have hz : l.length = 1 := by omega
  have hlen : (l ++ ([128] : Bs)).length = 2 := by simp [hz]
  have c0 : by' (l ++ ([128] : Bs)) 0 = by' l 0 := by_append_left _ _ _ (by omega)
  have c1 : by' (l ++ ([128] : Bs)) 1 = 128 := by have := by_append_right l ([128] : Bs) 0; rw [hz] at this; exact this
  refine closedB_ext 3 l [128] (by decide) (by simp) (seq_of2 hlen ?_)
  rw [hlen, c0, c1]
  unfold Ok2
  omega

theorem complete_E0 {l : Bs} (hl : 1 ≤ l.length) (hc : by' l 0 = 224) (h : fullB l = false) : closedB l 3 = true := by
  unfold fullB fullN at h
  simp only [Bool.or_eq_false_iff, Bool.and_eq_false_iff, decide_eq_false_iff_not] at h
  obtain ⟨⟨h1, h2⟩, h3⟩ := h
  rw [Lib.firstT_E0 hc] at h1 h2
  rw [show Lib.accLo (19 / 16) = 160 from rfl, show Lib.accHi (19 / 16) = 191 from rfl] at h2
  rcases Nat.lt_or_ge l.length 2 with hn | hn
  · have hz : l.length = 1 := by omega
    have hlen : (l ++ ([160, 128] : Bs)).length = 3 := by simp [hz]
    have c0 : by' (l ++ ([160, 128] : Bs)) 0 = by' l 0 := by_append_left _ _ _ (by omega)
    have c1 : by' (l ++ ([160, 128] : Bs)) 1 = 160 := by have := by_append_right l ([160, 128] : Bs) 0; rw [hz] at this; exact this
    have c2 : by' (l ++ ([160, 128] : Bs)) 2 = 128 := by have := by_append_right l ([160, 128] : Bs) 1; rw [hz] at this; exact this
    refine closedB_ext 3 l [160, 128] (by decide) (by simp) (seq_of3 hlen ?_)
    rw [hlen, c0, c1, c2]
    unfold Ok3 n3
    omega
  · have hz : l.length = 2 := by omega
    have hlen : (l ++ ([128] : Bs)).length = 3 := by simp [hz]
    have c0 : by' (l ++ ([128] : Bs)) 0 = by' l 0 := by_append_left _ _ _ (by omega)
    have c1 : by' (l ++ ([128] : Bs)) 1 = by' l 1 := by_append_left _ _ _ (by omega)
    have c2 : by' (l ++ ([128] : Bs)) 2 = 128 := by have := by_append_right l ([128] : Bs) 0; rw [hz] at this; exact this
    refine closedB_ext 3 l [128] (by decide) (by simp) (seq_of3 hlen ?_)
    rw [hlen, c0, c1, c2]
    unfold Ok3 n3
    omega

theorem complete_E1 {l : Bs} (hl : 1 ≤ l.length) (hc : (225 ≤ by' l 0 ∧ by' l 0 < 237) ∨ (238 ≤ by' l 0 ∧ by' l 0 < 240)) (h : fullB l = false) : closedB l 3 = true := by
  unfold fullB fullN at h
  simp only [Bool.or_eq_false_iff, Bool.and_eq_false_iff, decide_eq_false_iff_not] at h
  obtain ⟨⟨h1, h2⟩, h3⟩ := h
  rw [Lib.firstT_E1 hc] at h1 h2
  rw [show Lib.accLo (3 / 16) = 128 from rfl, show Lib.accHi (3 / 16) = 191 from rfl] at h2
  rcases Nat.lt_or_ge l.length 2 with hn | hn
  · have hz : l.length = 1 := by omega
    have hlen : (l ++ ([128, 128] : Bs)).length = 3 := by simp [hz]
    have c0 : by' (l ++ ([128, 128] : Bs)) 0 = by' l 0 := by_append_left _ _ _ (by omega)
    have c1 : by' (l ++ ([128, 128] : Bs)) 1 = 128 := by have := by_append_right l ([128, 128] : Bs) 0; rw [hz] at this; exact this
    have c2 : by' (l ++ ([128, 128] : Bs)) 2 = 128 := by have := by_append_right l ([128, 128] : Bs) 1; rw [hz] at this; exact this
    refine closedB_ext 3 l [128, 128] (by decide) (by simp) (seq_of3 hlen ?_)
    rw [hlen, c0, c1, c2]
    unfold Ok3 n3
    omega
  · have hz : l.length = 2 := by omega
    have hlen : (l ++ ([128] : Bs)).length = 3 := by simp [hz]
    have c0 : by' (l ++ ([128] : Bs)) 0 = by' l 0 := by_append_left _ _ _ (by omega)
    have c1 : by' (l ++ ([128] : Bs)) 1 = by' l 1 := by_append_left _ _ _ (by omega)
    have c2 : by' (l ++ ([128] : Bs)) 2 = 128 := by have := by_append_right l ([128] : Bs) 0; rw [hz] at this; exact this
    refine closedB_ext 3 l [128] (by decide) (by simp) (seq_of3 hlen ?_)
    rw [hlen, c0, c1, c2]
    unfold Ok3 n3
    omega

theorem complete_ED {l : Bs} (hl : 1 ≤ l.length) (hc : by' l 0 = 237) (h : fullB l = false) : closedB l 3 = true := by
  unfold fullB fullN at h
  simp only [Bool.or_eq_false_iff, Bool.and_eq_false_iff, decide_eq_false_iff_not] at h
  obtain ⟨⟨h1, h2⟩, h3⟩ := h
  rw [Lib.firstT_ED hc] at h1 h2
  rw [show Lib.accLo (35 / 16) = 128 from rfl, show Lib.accHi (35 / 16) = 159 from rfl] at h2
  rcases Nat.lt_or_ge l.length 2 with hn | hn
  · have hz : l.length = 1 := by omega
    have hlen : (l ++ ([128, 128] : Bs)).length = 3 := by simp [hz]
    have c0 : by' (l ++ ([128, 128] : Bs)) 0 = by' l 0 := by_append_left _ _ _ (by omega)
    have c1 : by' (l ++ ([128, 128] : Bs)) 1 = 128 := by have := by_append_right l ([128, 128] : Bs) 0; rw [hz] at this; exact this
    have c2 : by' (l ++ ([128, 128] : Bs)) 2 = 128 := by have := by_append_right l ([128, 128] : Bs) 1; rw [hz] at this; exact this
    refine closedB_ext 3 l [128, 128] (by decide) (by simp) (seq_of3 hlen ?_)
    rw [hlen, c0, c1, c2]
    unfold Ok3 n3
    omega
  · have hz : l.length = 2 := by omega
    have hlen : (l ++ ([128] : Bs)).length = 3 := by simp [hz]
    have c0 : by' (l ++ ([128] : Bs)) 0 = by' l 0 := by_append_left _ _ _ (by omega)
    have c1 : by' (l ++ ([128] : Bs)) 1 = by' l 1 := by_append_left _ _ _ (by omega)
    have c2 : by' (l ++ ([128] : Bs)) 2 = 128 := by have := by_append_right l ([128] : Bs) 0; rw [hz] at this; exact this
    refine closedB_ext 3 l [128] (by decide) (by simp) (seq_of3 hlen ?_)
    rw [hlen, c0, c1, c2]
    unfold Ok3 n3
    omega

theorem complete_F0 {l : Bs} (hl : 1 ≤ l.length) (hc : by' l 0 = 240) (h : fullB l = false) : closedB l 3 = true := by
  unfold fullB fullN at h
  simp only [Bool.or_eq_false_iff, Bool.and_eq_false_iff, decide_eq_false_iff_not] at h
  obtain ⟨⟨h1, h2⟩, h3⟩ := h
  rw [Lib.firstT_F0 hc] at h1 h2
  rw [show Lib.accLo (52 / 16) = 144 from rfl, show Lib.accHi (52 / 16) = 191 from rfl] at h2
  rcases Nat.lt_or_ge l.length 2 with hn | hn
  · have hz : l.length = 1 := by omega
    have hlen : (l ++ ([144, 128, 128] : Bs)).length = 4 := by simp [hz]
    have c0 : by' (l ++ ([144, 128, 128] : Bs)) 0 = by' l 0 := by_append_left _ _ _ (by omega)
    have c1 : by' (l ++ ([144, 128, 128] : Bs)) 1 = 144 := by have := by_append_right l ([144, 128, 128] : Bs) 0; rw [hz] at this; exact this
    have c2 : by' (l ++ ([144, 128, 128] : Bs)) 2 = 128 := by have := by_append_right l ([144, 128, 128] : Bs) 1; rw [hz] at this; exact this
    have c3 : by' (l ++ ([144, 128, 128] : Bs)) 3 = 128 := by have := by_append_right l ([144, 128, 128] : Bs) 2; rw [hz] at this; exact this
    refine closedB_ext 3 l [144, 128, 128] (by decide) (by simp) (seq_of4 hlen ?_)
    rw [hlen, c0, c1, c2, c3]
    unfold Ok4 n4
    omega
  · rcases Nat.lt_or_ge l.length 3 with hn3 | hn3
    · have hz : l.length = 2 := by omega
      have hlen : (l ++ ([128, 128] : Bs)).length = 4 := by simp [hz]
      have c0 : by' (l ++ ([128, 128] : Bs)) 0 = by' l 0 := by_append_left _ _ _ (by omega)
      have c1 : by' (l ++ ([128, 128] : Bs)) 1 = by' l 1 := by_append_left _ _ _ (by omega)
      have c2 : by' (l ++ ([128, 128] : Bs)) 2 = 128 := by have := by_append_right l ([128, 128] : Bs) 0; rw [hz] at this; exact this
      have c3 : by' (l ++ ([128, 128] : Bs)) 3 = 128 := by have := by_append_right l ([128, 128] : Bs) 1; rw [hz] at this; exact this
      refine closedB_ext 3 l [128, 128] (by decide) (by simp) (seq_of4 hlen ?_)
      rw [hlen, c0, c1, c2, c3]
      unfold Ok4 n4
      omega
    · have hz : l.length = 3 := by omega
      have hlen : (l ++ ([128] : Bs)).length = 4 := by simp [hz]
      have c0 : by' (l ++ ([128] : Bs)) 0 = by' l 0 := by_append_left _ _ _ (by omega)
      have c1 : by' (l ++ ([128] : Bs)) 1 = by' l 1 := by_append_left _ _ _ (by omega)
      have c2 : by' (l ++ ([128] : Bs)) 2 = by' l 2 := by_append_left _ _ _ (by omega)
      have c3 : by' (l ++ ([128] : Bs)) 3 = 128 := by have := by_append_right l ([128] : Bs) 0; rw [hz] at this; exact this
      refine closedB_ext 3 l [128] (by decide) (by simp) (seq_of4 hlen ?_)
      rw [hlen, c0, c1, c2, c3]
      unfold Ok4 n4
      omega

theorem complete_F1 {l : Bs} (hl : 1 ≤ l.length) (hc : 241 ≤ by' l 0 ∧ by' l 0 < 244) (h : fullB l = false) : closedB l 3 = true := by
  unfold fullB fullN at h
  simp only [Bool.or_eq_false_iff, Bool.and_eq_false_iff, decide_eq_false_iff_not] at h
  obtain ⟨⟨h1, h2⟩, h3⟩ := h
  rw [Lib.firstT_F1 hc] at h1 h2
  rw [show Lib.accLo (4 / 16) = 128 from rfl, show Lib.accHi (4 / 16) = 191 from rfl] at h2
  rcases Nat.lt_or_ge l.length 2 with hn | hn
  · have hz : l.length = 1 := by omega
    have hlen : (l ++ ([128, 128, 128] : Bs)).length = 4 := by simp [hz]
    have c0 : by' (l ++ ([128, 128, 128] : Bs)) 0 = by' l 0 := by_append_left _ _ _ (by omega)
    have c1 : by' (l ++ ([128, 128, 128] : Bs)) 1 = 128 := by have := by_append_right l ([128, 128, 128] : Bs) 0; rw [hz] at this; exact this
    have c2 : by' (l ++ ([128, 128, 128] : Bs)) 2 = 128 := by have := by_append_right l ([128, 128, 128] : Bs) 1; rw [hz] at this; exact this
    have c3 : by' (l ++ ([128, 128, 128] : Bs)) 3 = 128 := by have := by_append_right l ([128, 128, 128] : Bs) 2; rw [hz] at this; exact this
    refine closedB_ext 3 l [128, 128, 128] (by decide) (by simp) (seq_of4 hlen ?_)
    rw [hlen, c0, c1, c2, c3]
    unfold Ok4 n4
    omega
  · rcases Nat.lt_or_ge l.length 3 with hn3 | hn3
    · have hz : l.length = 2 := by omega
      have hlen : (l ++ ([128, 128] : Bs)).length = 4 := by simp [hz]
      have c0 : by' (l ++ ([128, 128] : Bs)) 0 = by' l 0 := by_append_left _ _ _ (by omega)
      have c1 : by' (l ++ ([128, 128] : Bs)) 1 = by' l 1 := by_append_left _ _ _ (by omega)
      have c2 : by' (l ++ ([128, 128] : Bs)) 2 = 128 := by have := by_append_right l ([128, 128] : Bs) 0; rw [hz] at this; exact this
      have c3 : by' (l ++ ([128, 128] : Bs)) 3 = 128 := by have := by_append_right l ([128, 128] : Bs) 1; rw [hz] at this; exact this
      refine closedB_ext 3 l [128, 128] (by decide) (by simp) (seq_of4 hlen ?_)
      rw [hlen, c0, c1, c2, c3]
      unfold Ok4 n4
      omega
    · have hz : l.length = 3 := by omega
      have hlen : (l ++ ([128] : Bs)).length = 4 := by simp [hz]
      have c0 : by' (l ++ ([128] : Bs)) 0 = by' l 0 := by_append_left _ _ _ (by omega)
      have c1 : by' (l ++ ([128] : Bs)) 1 = by' l 1 := by_append_left _ _ _ (by omega)
      have c2 : by' (l ++ ([128] : Bs)) 2 = by' l 2 := by_append_left _ _ _ (by omega)
      have c3 : by' (l ++ ([128] : Bs)) 3 = 128 := by have := by_append_right l ([128] : Bs) 0; rw [hz] at this; exact this
      refine closedB_ext 3 l [128] (by decide) (by simp) (seq_of4 hlen ?_)
      rw [hlen, c0, c1, c2, c3]
      unfold Ok4 n4
      omega

theorem complete_F4 {l : Bs} (hl : 1 ≤ l.length) (hc : by' l 0 = 244) (h : fullB l = false) : closedB l 3 = true := by
  unfold fullB fullN at h
  simp only [Bool.or_eq_false_iff, Bool.and_eq_false_iff, decide_eq_false_iff_not] at h
  obtain ⟨⟨h1, h2⟩, h3⟩ := h
  rw [Lib.firstT_F4 hc] at h1 h2
  rw [show Lib.accLo (68 / 16) = 128 from rfl, show Lib.accHi (68 / 16) = 143 from rfl] at h2
  rcases Nat.lt_or_ge l.length 2 with hn | hn
  · have hz : l.length = 1 := by omega
    have hlen : (l ++ ([128, 128, 128] : Bs)).length = 4 := by simp [hz]
    have c0 : by' (l ++ ([128, 128, 128] : Bs)) 0 = by' l 0 := by_append_left _ _ _ (by omega)
    have c1 : by' (l ++ ([128, 128, 128] : Bs)) 1 = 128 := by have := by_append_right l ([128, 128, 128] : Bs) 0; rw [hz] at this; exact this
    have c2 : by' (l ++ ([128, 128, 128] : Bs)) 2 = 128 := by have := by_append_right l ([128, 128, 128] : Bs) 1; rw [hz] at this; exact this
    have c3 : by' (l ++ ([128, 128, 128] : Bs)) 3 = 128 := by have := by_append_right l ([128, 128, 128] : Bs) 2; rw [hz] at this; exact this
    refine closedB_ext 3 l [128, 128, 128] (by decide) (by simp) (seq_of4 hlen ?_)
    rw [hlen, c0, c1, c2, c3]
    unfold Ok4 n4
    omega
  · rcases Nat.lt_or_ge l.length 3 with hn3 | hn3
    · have hz : l.length = 2 := by omega
      have hlen : (l ++ ([128, 128] : Bs)).length = 4 := by simp [hz]
      have c0 : by' (l ++ ([128, 128] : Bs)) 0 = by' l 0 := by_append_left _ _ _ (by omega)
      have c1 : by' (l ++ ([128, 128] : Bs)) 1 = by' l 1 := by_append_left _ _ _ (by omega)
      have c2 : by' (l ++ ([128, 128] : Bs)) 2 = 128 := by have := by_append_right l ([128, 128] : Bs) 0; rw [hz] at this; exact this
      have c3 : by' (l ++ ([128, 128] : Bs)) 3 = 128 := by have := by_append_right l ([128, 128] : Bs) 1; rw [hz] at this; exact this
      refine closedB_ext 3 l [128, 128] (by decide) (by simp) (seq_of4 hlen ?_)
      rw [hlen, c0, c1, c2, c3]
      unfold Ok4 n4
      omega
    · have hz : l.length = 3 := by omega
      have hlen : (l ++ ([128] : Bs)).length = 4 := by simp [hz]
      have c0 : by' (l ++ ([128] : Bs)) 0 = by' l 0 := by_append_left _ _ _ (by omega)
      have c1 : by' (l ++ ([128] : Bs)) 1 = by' l 1 := by_append_left _ _ _ (by omega)
      have c2 : by' (l ++ ([128] : Bs)) 2 = by' l 2 := by_append_left _ _ _ (by omega)
      have c3 : by' (l ++ ([128] : Bs)) 3 = 128 := by have := by_append_right l ([128] : Bs) 0; rw [hz] at this; exact this
      refine closedB_ext 3 l [128] (by decide) (by simp) (seq_of4 hlen ?_)
      rw [hlen, c0, c1, c2, c3]
      unfold Ok4 n4
      omega

theorem complete {l : Bs} (hl : 1 ≤ l.length) (h : fullB l = false) : closedB l 3 = true := by
  have hnf := not_full hl h
  have hx : Lib.firstT (by' l 0) < 240 := by
    have hb := by_lt l 0
    unfold fullB fullN at h
    simp only [Bool.or_eq_false_iff, Bool.and_eq_false_iff, decide_eq_false_iff_not] at h
    rcases Lib.firstT_cases (by' l 0) with e | e | e
    · rw [e] at h; omega
    · rw [e] at h; omega
    · omega
  rcases Lib.firstT_low hx with e | e | e | e | e | e | e
  · exact complete_C2 hl e h
  · exact complete_E0 hl e h
  · exact complete_E1 hl e h
  · exact complete_ED hl e h
  · exact complete_F0 hl e h
  · exact complete_F1 hl e h
  · exact complete_F4 hl e h

/-- The document's beginning, of what has no right first character, is the library's. -/
theorem closed_full {l : Bs} (hl : l ≠ []) (hr : rightR (Lib.decodeL l).1 (Lib.decodeL l).2 = false) : closedB l 3 = !fullB l := by
  have h1 : 1 ≤ l.length := by cases l; contradiction; simp
  cases hf : fullB l
  · exact complete h1 hf
  · refine Bool.eq_false_iff.2 fun hc => ?_
    obtain ⟨e, he⟩ := closedB_sound 3 l hc
    by_cases hne : e = []
    · subst hne
      rw [List.append_nil] at he
      have := ((seqB_iff l).1 he).2.1
      rw [hr] at this; cases this
    · rw [part_notfull hl hne he] at hf; cases hf

theorem properB_short {l : Bs} (h : l.length < 1) : properB l = false := by
  have : decide (1 ≤ l.length) = false := decide_eq_false (by omega)
  simp [properB, this]
theorem properB_long {l : Bs} (h : 3 < l.length) : properB l = false := by
  have : decide (l.length ≤ 3) = false := decide_eq_false (by omega)
  simp [properB, this]
theorem properB_mid {l : Bs} (h1 : 1 ≤ l.length) (h3 : l.length ≤ 3) : properB l = !fullB l := by simp [properB, h1, h3]

end Go.Proofs.YtkknmbkfiiidmaaDoor
