/-
  The plain law of a tally's ends: what a seam makes is told by the last three bytes and the first three. No program.
-/
import Derived.Test.YtpihmbdfhhjleaaDoorTalLaw
import Derived.Test.YtpihmbdfhhjleaaDoorJoinSrc
namespace Go.Proofs.YtpihmbdfhhjleaaDoor
open Go.RowKit

def hd3 (l : Bs) : Bs := l.take 3
def tl3 (l : Bs) : Bs := l.drop (l.length - 3)
theorem hd3_len (l : Bs) : (hd3 l).length = min 3 l.length := by unfold hd3; simp
theorem tl3_len (l : Bs) : (tl3 l).length = min 3 l.length := by unfold tl3; simp; omega

theorem tailOf_tl3 {l : Bs} {k : Nat} (hk : k ≤ 3) (hl : k ≤ l.length) : tailOf (tl3 l) k = tailOf l k := by
  unfold tailOf tl3
  rw [List.drop_drop, List.length_drop]
  congr 1
  omega
theorem pendN_tl3 (l : Bs) : pendN (tl3 l) = pendN l := by
  have key : ∀ k, k ≤ 3 → ((k ≤ (tl3 l).length ∧ properB (tailOf (tl3 l) k) = true) ↔ (k ≤ l.length ∧ properB (tailOf l k) = true)) := by
    intro k hk
    constructor
    · rintro ⟨h, h2⟩
      have h3 : k ≤ l.length := by rw [tl3_len] at h; omega
      rw [tailOf_tl3 hk h3] at h2
      exact ⟨h3, h2⟩
    · rintro ⟨h, h2⟩
      exact ⟨by rw [tl3_len]; omega, by rw [tailOf_tl3 hk h]; exact h2⟩
  unfold pendN
  simp only [key 1 (by omega), key 2 (by omega), key 3 (by omega)]
theorem pendP_tl3 (l : Bs) : pendP (tl3 l) = pendP l := by
  unfold pendP
  rw [pendN_tl3]
  exact tailOf_tl3 (pend_le l).1 (pend_le l).2

theorem closN_hd3 (p b : Bs) : closN p (hd3 b) = closN p b := by
  by_cases hp : properB p = true
  · have hf := proper_full hp
    have hne : p ≠ [] := by intro e; rw [e] at hf; simp at hf
    have e4 : p ++ b.take 4 = (p ++ b.take 3) ++ (b.take 4).drop 3 := by
      rw [List.append_assoc]
      congr 1
      conv => lhs; rw [← List.take_append_drop 3 (b.take 4)]
      rw [List.take_take]
      rfl
    have t3 : (hd3 b).take 4 = b.take 3 := by unfold hd3; rw [List.take_take]; rfl
    have n3 : p ++ b.take 3 ≠ [] := List.append_ne_nil_of_left_ne_nil hne _
    have n4 : p ++ b.take 4 ≠ [] := List.append_ne_nil_of_left_ne_nil hne _
    unfold closN
    rw [t3]
    by_cases h3 : fB (p ++ b.take 3) = true
    · have h3n := fB_ne h3
      have hx := dec_extend (b := (b.take 4).drop 3) h3n.1 h3n.2.1
      rw [← e4] at hx
      have h4 := fB_of n4 (by rw [hx]; exact h3n.2.1)
      rw [if_pos ⟨hp, h3⟩, if_pos ⟨hp, h4.1⟩, h4.2, hx, h3n.2.2]
    · by_cases h4 : fB (p ++ b.take 4) = true
      · exfalso
        have h4n := fB_ne h4
        have hl := fW_le h4
        have hl2 : fW (p ++ b.take 4) ≤ (p ++ b.take 3).length := by
          have := hl.1
          simp only [List.length_append, List.length_take] at this ⊢
          omega
        have hpre := dec_prefix (b := (b.take 4).drop 3) n3 (by rw [← e4]; exact h4n.2.1) (by rw [← e4, ← h4n.2.2]; exact hl2)
        rw [← e4] at hpre
        exact h3 (fB_of n3 (by rw [hpre]; exact h4n.2.1)).1
      · rw [if_neg (fun h => h3 h.2), if_neg (fun h => h4 h.2)]
  · unfold closN
    rw [if_neg (fun h => hp h.1), if_neg (fun h => hp h.1)]
theorem closK_ends (a b : Bs) : closK (tl3 a) (hd3 b) = closK a b := by
  unfold closK
  rw [pendP_tl3, closN_hd3]

theorem crE_tl3 (a : Bs) : crE (tl3 a) = crE a := by
  unfold crE
  rw [tl3_len]
  unfold tl3
  rw [by_drop]
  by_cases h : 1 ≤ a.length
  · rw [show a.length - 3 + (min 3 a.length - 1) = a.length - 1 by omega]
    have : 1 ≤ min 3 a.length := by omega
    simp [h, this]
  · have : ¬ 1 ≤ min 3 a.length := by omega
    simp [h, this]
theorem lfB_hd3 (b : Bs) : lfB (hd3 b) = lfB b := by
  unfold lfB
  rw [hd3_len]
  unfold hd3
  rw [by_take _ _ _ (by omega)]
  by_cases h : 1 ≤ b.length
  · have : 1 ≤ min 3 b.length := by omega
    simp [h, this]
  · have : ¬ 1 ≤ min 3 b.length := by omega
    simp [h, this]

theorem seamC_ends (a b : Bs) : seamC (tl3 a) (hd3 b) = seamC a b := by
  unfold seamC
  rw [closK_ends, pendN_tl3]
theorem seamL_ends (a b : Bs) : seamL (tl3 a) (hd3 b) = seamL a b := by
  unfold seamL
  rw [closK_ends, crE_tl3, lfB_hd3, pendP_tl3]
  by_cases h : closK a b = 0
  · rw [if_pos h, if_pos h]
  · rw [if_neg h, if_neg h]
    have h2 : closK (tl3 a) (hd3 b) ≠ 0 := by rw [closK_ends]; exact h
    obtain ⟨_, hr⟩ := dec_whole h2
    obtain ⟨hpr, _⟩ := closK_proper h2
    have hf := proper_full hpr
    rw [pendP_tl3] at hr hf
    have hne : pendP a ++ hd3 b ≠ [] := by
      intro e
      have h9 := congrArg List.length e
      rw [List.length_append] at h9
      simp at h9
      have := hf.2.1
      rw [h9.1] at this
      simp at this
    have := dec_extend (b := b.drop 3) hne hr
    rw [List.append_assoc, show hd3 b ++ b.drop 3 = b from List.take_append_drop _ _] at this
    rw [this]

theorem seam_rune {a b : Bs} (h : closK a b ≠ 0) : fR (pendP a ++ b.take (closK a b)) = ((Lib.decodeL (pendP a ++ b)).1 : Int) := by
  obtain ⟨hw, hr⟩ := dec_whole h
  obtain ⟨hpr, _⟩ := closK_proper h
  have hf := proper_full hpr
  have hpl := pendP_len a
  have h5 := (closN_bounds (pendP a) b).2
  have hne : pendP a ++ b ≠ [] := by
    intro e
    have h9 := congrArg List.length e
    rw [List.length_append] at h9
    simp at h9
    have := hf.2.1
    rw [h9.1] at this
    simp at this
  have hd := dec_same_right hne hw hr (by rw [List.length_append, hpl]; unfold closK; omega)
  have ht : (pendP a ++ b).take (pendN a + closK a b) = pendP a ++ b.take (closK a b) := by
    rw [← hpl, List.take_length_add_append]
  rw [ht] at hd
  exact hd.2.2.1

/-! ### what the document takes of a's end -/
def xOf (a : Bs) : Bs := if pendN a = 0 ∧ crE a = true then [13] else pendP a
theorem pendP_nil {a : Bs} (h : pendN a = 0) : pendP a = [] := by
  have := pendP_len a
  rw [h] at this
  exact List.length_eq_zero_iff.1 this
theorem closK_nil {a b : Bs} (h : pendN a = 0) : closK a b = 0 := by
  unfold closK
  rw [pendP_nil h]
  exact closN_nil b
theorem pendN_cr : pendN [13] = 0 := by decide +kernel
theorem pendP_pendP (a : Bs) : pendN (pendP a) = pendN a ∧ pendP (pendP a) = pendP a := by
  by_cases h : pendN a = 0
  · have e := pendP_nil h
    have e2 : pendN ([] : Bs) = 0 := rfl
    rw [e]
    exact ⟨by rw [h]; rfl, pendP_nil rfl⟩
  · have hp := pendP_proper a h
    have hl := pendP_len a
    have hne : pendP a ≠ [] := by intro e; rw [e] at hl; simp at hl; omega
    have h2 := (pend_len_iff hne).2 hp
    refine ⟨by rw [h2, hl], ?_⟩
    have : pendP (pendP a) = tailOf (pendP a) (pendN (pendP a)) := rfl
    rw [this, h2]
    unfold tailOf
    simp
theorem crE_pendP {a : Bs} (h : pendN a ≠ 0) : crE (pendP a) = crE a := by
  have hl := pendP_len a
  have hle := (pend_le a).2
  unfold crE
  rw [hl]
  have : by' (pendP a) (pendN a - 1) = by' a (a.length - 1) := by
    unfold pendP tailOf
    rw [by_drop]
    congr 1
    omega
  rw [this]
  have h1 : 1 ≤ pendN a := by omega
  have h2 : 1 ≤ a.length := by omega
  simp [h1, h2]

theorem seam_x (a b : Bs) : seamC (xOf a) b = seamC a b ∧ seamL (xOf a) b = seamL a b := by
  by_cases h : pendN a = 0
  · have hk := closK_nil (b := b) h
    cases hc : crE a
    · have : xOf a = [] := by unfold xOf; rw [if_neg (by simp [hc]), pendP_nil h]
      rw [this]
      have hk2 : closK [] b = 0 := closK_nil rfl
      unfold seamC seamL
      rw [hk, hk2, hc]
      simp [crE]
    · have : xOf a = [13] := by unfold xOf; rw [if_pos ⟨h, hc⟩]
      rw [this]
      have hk2 : closK [13] b = 0 := closK_nil pendN_cr
      unfold seamC seamL
      rw [hk, hk2, hc]
      have : crE [13] = true := by decide
      rw [this]
      simp
  · have hx : xOf a = pendP a := by unfold xOf; rw [if_neg (fun e => h e.1)]
    rw [hx]
    have hk : closK (pendP a) b = closK a b := by unfold closK; rw [(pendP_pendP a).2]
    unfold seamC seamL
    rw [hk, (pendP_pendP a).1, (pendP_pendP a).2, crE_pendP h]
    exact ⟨rfl, rfl⟩

theorem seam_x_chars (a b : Bs) : (countN (xOf a ++ b) : Int) - countN (xOf a) - countN b = seamC a b := by
  rw [seam_chars, (seam_x a b).1]; omega
theorem seam_x_lines (a b : Bs) : (linN (xOf a ++ b) : Int) - linN (xOf a) - linN b = seamL a b := by
  rw [seam_lines, (seam_x a b).2]; omega

theorem seam_bounds (a b : Bs) : -3 ≤ seamC a b ∧ seamC a b ≤ 0 ∧ -1 ≤ seamL a b ∧ seamL a b ≤ 1 := by
  unfold seamC seamL
  by_cases h : closK a b = 0
  · rw [if_pos h, if_pos h]
    split <;> omega
  · rw [if_neg h, if_neg h]
    obtain ⟨hpr, hfb, hfw⟩ := closK_proper h
    have h1 := fW_le hfb
    have hpf := proper_full hpr
    have hl := pendP_len a
    rw [hfw] at h1
    split <;> omega

/-! ### the ends of what is joined; what a tally of a text has -/
theorem hd3_join (a b : Bs) : hd3 (hd3 a ++ hd3 b) = hd3 (a ++ b) := by
  unfold hd3
  rw [List.take_append, List.take_append, List.take_take, List.take_take]
  by_cases h : 3 ≤ a.length
  · simp [Nat.min_eq_left h, Nat.sub_eq_zero_of_le h]
  · simp; omega
theorem tl3_join (a b : Bs) : tl3 (tl3 a ++ tl3 b) = tl3 (a ++ b) := by
  have la := tl3_len a
  have lb := tl3_len b
  have e1 : tl3 (tl3 a ++ tl3 b) = (tl3 a).drop ((tl3 a).length + (tl3 b).length - 3) ++ (tl3 b).drop ((tl3 a).length + (tl3 b).length - 3 - (tl3 a).length) := by
    show (tl3 a ++ tl3 b).drop _ = _
    rw [List.drop_append, List.length_append]
  have e2 : tl3 (a ++ b) = a.drop (a.length + b.length - 3) ++ b.drop (a.length + b.length - 3 - a.length) := by
    show (a ++ b).drop _ = _
    rw [List.drop_append, List.length_append]
  rw [e1, e2, la, lb]
  unfold tl3
  rw [List.drop_drop, List.drop_drop]
  by_cases hb : 3 ≤ b.length
  · rw [List.drop_of_length_le (l := a) (by omega), List.drop_of_length_le (l := a) (by omega)]
    congr 2
    omega
  · congr 2 <;> omega
theorem ends_all {l : Bs} (h : l.length ≤ 6) : hd3 l ++ (tl3 l).drop (2 * min l.length 3 - l.length) = l := by
  unfold hd3 tl3
  rw [List.drop_drop]
  by_cases h3 : l.length ≤ 3
  · rw [List.take_of_length_le h3, List.drop_of_length_le (by omega), List.append_nil]
  · rw [show l.length - 3 + (2 * min l.length 3 - l.length) = 3 by omega]
    exact List.take_append_drop 3 l

theorem count_four (l : Bs) : l.length ≤ 4 * countN l := by
  have h := (Cut.full l).2.2
  unfold countN
  have hw : ∀ d ∈ tk l, d.2 ≤ 4 := fun d hd => (tk_wid l d hd).2
  rw [← h]
  generalize tk l = t at hw
  clear h
  induction t with
  | nil => simp [wsum]
  | cons d t ih =>
    rw [wsum_cons, List.length_cons]
    have h1 := hw d (by simp)
    have h2 := ih (fun e he => hw e (by simp [he]))
    omega
end Go.Proofs.YtpihmbdfhhjleaaDoor
