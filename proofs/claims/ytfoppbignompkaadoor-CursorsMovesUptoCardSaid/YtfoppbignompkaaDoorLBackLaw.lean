/-
  Places, lines and columns, there and back: plain facts (no program in sight).
-/
import Derived.Test.YtfoppbignompkaaDoorWhereLaw
import Derived.Test.YtfoppbignompkaaDoorLPlace
namespace Go.Proofs.YtfoppbignompkaaDoor
open Go.RowKit

theorem of_mono {l : Bs} {c d : Nat} (h : c ≤ d) (hd : d ≤ l.length) : ofT (tk l) c ≤ ofT (tk l) d := by
  rcases Nat.lt_or_ge d l.length with h1 | h1
  · obtain ⟨n, hn, e, a1, a2, _⟩ := of_find l c (by omega)
    obtain ⟨m, hm, e', b1, b2, _⟩ := of_find l d h1
    rw [e, e']
    rcases Nat.lt_or_ge m n with h2 | h2
    · have := atL_le l (show m + 1 ≤ n by omega) (by omega); omega
    · exact h2
  · obtain rfl : d = l.length := by omega
    rw [ofT_end]
    rcases Nat.lt_or_ge c l.length with h2 | h2
    · obtain ⟨n, hn, e, _⟩ := of_find l c h2
      omega
    · obtain rfl : c = l.length := by omega
      rw [ofT_end]; exact Nat.le_refl _
theorem of_le {l : Bs} {c : Nat} (h : c ≤ l.length) : ofT (tk l) c ≤ countN l := by
  have := of_mono h (Nat.le_refl _)
  rwa [ofT_end] at this
theorem lnOf_mono {l : Bs} {c d : Nat} (h : c ≤ d) : lnOf l c ≤ lnOf l d := by
  obtain ⟨a1, a2, a3⟩ := lnOf_is l c
  obtain ⟨b1, b2, b3⟩ := lnOf_is l d
  rcases Nat.lt_or_ge (lnOf l d) (lnOf l c) with h1 | h1
  · have h2 := b3 (by omega)
    by_cases e : lnOf l d + 1 = lnOf l c
    · rw [e] at h2; omega
    · have := (lnA_lt l (show lnOf l d + 1 < lnOf l c by omega) a1).2; omega
  · exact h1
/-- Lines and columns do not fall. -/
theorem where_mono {l : Bs} {c d : Nat} (h : c ≤ d) (hd : d ≤ l.length) : lnOf l c < lnOf l d ∨ lnOf l c = lnOf l d ∧ colOf l c ≤ colOf l d := by
  have h1 := lnOf_mono (l := l) h
  by_cases e : lnOf l c = lnOf l d
  · right
    refine ⟨e, ?_⟩
    unfold colOf
    rw [e]
    have := of_mono h hd
    omega
  · exact .inl (by omega)

/-- the character where a place's line begins, and where its piece ends -/
theorem line_at (l : Bs) (k : Nat) (hk : k < lnN l) : ∃ a b, a ≤ b ∧ b ≤ countN l ∧ atN l a = lnA l k ∧ atN l b = lnB l k ∧ ofT (tk l) (lnA l k) = a ∧ ofT (tk l) (lnB l k) = b := by
  obtain ⟨g1, g2, g3, g4, g5, g6, g7⟩ := ln_get l k hk
  obtain ⟨a, ha, hA, hoA⟩ := border_at (lnA_border l k hk)
  have hb : Border l (lnB l k) := by
    by_cases e : k + 1 < lnN l
    · exact end_border (by rw [← g4]; exact (g7 e).1)
    · rw [(g6 (by omega)).1]; exact ⟨_, Cut.full l⟩
  obtain ⟨b, hb, hB, hoB⟩ := border_at hb
  refine ⟨a, b, ?_, hb, hA, hB, hoA, hoB⟩
  rcases Nat.lt_or_ge b a with h | h
  · have := atL_lt l h ha; omega
  · exact h

/-- A place's line and column lead back to where its character begins, or it stands in the midst of a line end. -/
theorem there_back {l : Bs} {c : Nat} (hc : c ≤ l.length) :
    (∃ p, placeZ l (lnOf l c : Nat) (colOf l c : Nat) = (((p : Nat) : Int), 0) ∧ p ≤ c ∧ c ≤ p + 3 ∧ (p = c ↔ Border l c)) ∨
    (placeZ l (lnOf l c : Nat) (colOf l c : Nat) = (0, 6) ∧ 0 < c ∧ c < l.length ∧ by' l (c - 1) = 13 ∧ by' l c = 10) := by
  obtain ⟨h1, h2, h3⟩ := lnOf_is l c
  obtain ⟨g1, g2, g3, g4, g5, g6, g7⟩ := ln_get l (lnOf l c) h1
  obtain ⟨a, b, hab, hb, hA, hB, hoA, hoB⟩ := line_at l (lnOf l c) h1
  have hcol : colOf l c = ofT (tk l) c - a := by unfold colOf; rw [hoA]
  have ham : a ≤ ofT (tk l) c := by have := of_mono h2 hc; rwa [hoA] at this
  have hcnt : countN (pieceL l (lnA l (lnOf l c)) (lnB l (lnOf l c))) = b - a := by unfold pieceL; rw [← hA, ← hB]; exact seg_count l a b hab hb
  by_cases hin : ofT (tk l) c ≤ b
  · left
    have hat : atN (pieceL l (lnA l (lnOf l c)) (lnB l (lnOf l c))) (ofT (tk l) c - a) + lnA l (lnOf l c) = atN l (ofT (tk l) c) := by
      have := seg_in l a b (ofT (tk l) c - a) hab hb (by omega)
      rw [show a + (ofT (tk l) c - a) = ofT (tk l) c by omega] at this
      unfold pieceL
      rw [← hA, ← hB]
      omega
    refine ⟨atN l (ofT (tk l) c), ?_, ?_⟩
    · rw [placeZ_in h1 (by rw [hcnt, hcol]; omega), hcol]
      congr 1
      omega
    · rcases Nat.lt_or_ge c l.length with h | h
      · obtain ⟨n, hn, e, a1, a2, a3, a4⟩ := of_find l c h
        rw [e]
        exact ⟨a1, by omega, a4⟩
      · obtain rfl : c = l.length := by omega
        rw [ofT_end, atN_full]
        exact ⟨Nat.le_refl _, by omega, ⟨fun _ => ⟨_, Cut.full l⟩, fun _ => rfl⟩⟩
  · right
    have hcl : c < l.length := by
      rcases Nat.lt_or_ge c l.length with h | h
      · exact h
      · exfalso
        obtain rfl : c = l.length := by omega
        rw [ofT_end] at hin
        have hlast : ¬ lnOf l l.length + 1 < lnN l := fun e => by have := h3 e; have := lnA_le l _ e; omega
        have := (g6 (by omega)).1
        rw [this, ofT_end] at hoB
        omega
    obtain ⟨n, hn, e, a1, a2, a3, a4⟩ := of_find l c hcl
    rw [e] at hin
    have hb1 : atN l (b + 1) ≤ c := by have := atL_le l (show b + 1 ≤ n by omega) (by omega); omega
    have hnl : lnOf l c + 1 < lnN l := by
      rcases Nat.lt_or_ge (lnOf l c + 1) (lnN l) with h | h
      · exact h
      · have := (g6 (by omega)).1
        have := (cut_at l (b + 1) (by omega)).1
        have := atL_lt l (show b < b + 1 by omega) (by omega)
        omega
    have hlt := h3 hnl
    obtain ⟨g8, g9⟩ := g7 hnl
    rw [g9] at hlt
    have hlt2 := atL_lt l (show b < b + 1 by omega) (show b + 1 ≤ countN l by omega)
    -- the character at the line end's place
    have hs := atN_succ l b (by omega)
    have hd : (tk l)[b]?.getD (0, 0) = Lib.decodeL (l.drop (lnB l (lnOf l c))) := by
      have hcut := cut_at l b hb
      have := hcut.get (by rw [hB]; have := end_lt (l := l) (i := lnB l (lnOf l c)) (by omega); omega)
      rw [hB] at this
      rw [← this, List.length_take, Nat.min_eq_left (show b ≤ (tk l).length from hb)]
    rw [hd, hB] at hs
    rw [hs] at hb1
    have hcs := end_cases l (lnB l (lnOf l c))
    have h1c : by' l (lnB l (lnOf l c)) ≠ 10 → by' l (lnB l (lnOf l c)) ≠ 13 → endN l (lnB l (lnOf l c)) = (Lib.decodeL (l.drop (lnB l (lnOf l c)))).2 := by
      intro x1 x2
      rcases end_dec l _ x1 x2 _ _ rfl with ⟨_, e, _⟩ | ⟨_, _, _, e⟩
      · exact e
      · omega
    have hw := (wid_bounds (l.drop (lnB l (lnOf l c)))).1
    have hx : by' l (lnB l (lnOf l c)) = 13 ∧ by' l (lnB l (lnOf l c) + 1) = 10 ∧ lnE l (lnOf l c) = 2 := by
      by_cases x1 : by' l (lnB l (lnOf l c)) = 10
      · omega
      · by_cases x2 : by' l (lnB l (lnOf l c)) = 13
        · omega
        · have := h1c x1 x2; omega
    have hce : c = lnB l (lnOf l c) + 1 := by omega
    refine ⟨?_, by omega, hcl, ?_, ?_⟩
    · rw [placeZ_col (by rw [hcnt, hcol, e]; omega)]
    · have := hx.1
      rw [show c - 1 = lnB l (lnOf l c) by omega]
      exact this
    · have := hx.2.1
      rw [hce]
      rw [← hce]
      rw [← hce] at this
      exact this
end Go.Proofs.YtfoppbignompkaaDoor
