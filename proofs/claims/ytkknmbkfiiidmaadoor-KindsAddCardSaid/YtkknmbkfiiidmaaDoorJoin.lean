/-
  The law's join: two lists one behind the other, in memory of its own; and what a character's runes are encoded.
-/
import Derived.Test.YtkknmbkfiiidmaaDoorCuts
import Derived.Lib.MapLaws
namespace Go.Proofs.YtkknmbkfiiidmaaDoor
open Go.RowKit

theorem dec_same_right {l : Bs} {w : Nat} (hne : l ≠ []) (hw : (Lib.decodeL l).2 = w) (hr : rightR (Lib.decodeL l).1 (Lib.decodeL l).2 = true) (hl : w ≤ l.length) :
    fB (l.take w) = true ∧ fW (l.take w) = w ∧ fR (l.take w) = ((Lib.decodeL l).1 : Int) ∧ Lib.encodeRune (fR (l.take w)) = l.take w := by
  have h1 := wid_bounds l
  have hn2 : l.take w ≠ [] := by
    intro e
    have := congrArg List.length e
    rw [List.length_take, Nat.min_eq_left hl] at this
    simp at this
    omega
  have e : l.take w ++ l.drop w = l := List.take_append_drop _ _
  have hd := dec_prefix (p := l.take w) (b := l.drop w) hn2 (by rw [e]; exact hr) (by rw [e, hw, List.length_take, Nat.min_eq_left hl]; exact Nat.le_refl _)
  rw [e] at hd
  have hf := fB_of hn2 (by rw [hd]; exact hr)
  have hfr : fR (l.take w) = ((Lib.decodeL l).1 : Int) := by unfold fR; rw [if_neg hn2, hd]
  refine ⟨hf.1, by rw [hf.2, hd, hw], hfr, ?_⟩
  rw [hfr, Lib.encode_decode l hne ?_, hw]
  rintro ⟨h2, h3⟩
  rw [h2, h3] at hr
  simp [rightR] at hr

theorem closed_facts {a b : Bs} (h : closK a b ≠ 0) :
    fB (pendP a ++ b.take (closK a b)) = true ∧ fW (pendP a ++ b.take (closK a b)) = pendN a + closK a b ∧
    countN (pendP a) = pendN a ∧ countN (b.take (closK a b)) = closK a b ∧
    Lib.encodeRune (fR (pendP a ++ b.take (closK a b))) = pendP a ++ b.take (closK a b) ∧
    runesZ (a ++ b) = (runesZ a).take ((runesZ a).length - pendN a) ++ [fR (pendP a ++ b.take (closK a b))] ++ (runesZ b).drop (closK a b) ∧
    pendN a ≤ countN a ∧ closK a b ≤ countN b ∧ pendN a ≠ 0 := by
  obtain ⟨hpr, hfb, hfw⟩ := closK_proper h
  obtain ⟨hw, hr⟩ := dec_whole h
  obtain ⟨_, h2, h3, h4, h5⟩ := seam_closed h
  have hpf := proper_full hpr
  have hpl := pendP_len a
  have hne : pendP a ++ b ≠ [] := by
    intro e
    have := congrArg List.length e
    simp at this
    have h9 := hpf.2.1
    rw [this.1] at h9
    simp at h9
  have ht : (pendP a ++ b).take (pendN a + closK a b) = pendP a ++ b.take (closK a b) := by
    rw [← hpl, List.take_length_add_append]
  have hd := dec_same_right hne hw hr (by rw [List.length_append, hpl]; omega)
  rw [ht] at hd
  have htp := tk_proper hpr
  have hcl := congrArg List.length h4
  have hca := congrArg List.length h3
  have hnf := not_full hpf.2.1 hpf.1
  have hcq : countN (b.take (closK a b)) = closK a b := by
    have htl : (b.take (closK a b)).length = closK a b := by rw [List.length_take]; exact Nat.min_eq_left h5
    have := tk_fol (closK a b) (b.take (closK a b)) htl (fun i hi => by
      have hf := wid_fol (pendP a ++ b) (pendN a + i) (by have := hpf.2.1; omega) (by rw [hw]; omega)
      rw [← hpl, by_append_right] at hf
      rwa [by_take _ _ _ hi])
    unfold countN
    rw [this]; simp
  refine ⟨hd.1, hd.2.1, by unfold countN; rw [htp, hpl]; simp, hcq, hd.2.2.2, ?_, ?_, ?_, ?_⟩
  · have e1 : (runesZ a).take ((runesZ a).length - pendN a) = runesZ (a.take (a.length - pendN a)) := by
      have : runesZ a = runesZ (a.take (a.length - pendN a)) ++ List.replicate (pendN a) 65533 := by
        unfold runesZ
        rw [h3]; simp
      rw [this]
      simp
    have e2 : (runesZ b).drop (closK a b) = runesZ (b.drop (closK a b)) := by
      have : runesZ b = List.replicate (closK a b) 65533 ++ runesZ (b.drop (closK a b)) := by
        unfold runesZ
        rw [h4]; simp
      rw [this]
      simp
    rw [e1, e2, hd.2.2.1]
    unfold runesZ
    rw [h2]
    simp
  · unfold countN; simp at hca; omega
  · unfold countN; simp at hcl; omega
  · have := hpf.2.1; omega

theorem open_runes {a b : Bs} (h : closK a b = 0) : runesZ (a ++ b) = runesZ a ++ runesZ b := by
  unfold runesZ
  rw [tk_append _ a b (Nat.le_refl _) (seam_open h)]
  simp

theorem encS_one (r : Int) (l : Bs) (h : Lib.encodeRune r = l) : encS [r] = ⟨l.toArray⟩ := by
  subst h
  unfold encS encZ
  simp only [List.flatMap_cons, List.flatMap_nil, List.append_nil]
  rfl
end Go.Proofs.YtkknmbkfiiidmaaDoor
