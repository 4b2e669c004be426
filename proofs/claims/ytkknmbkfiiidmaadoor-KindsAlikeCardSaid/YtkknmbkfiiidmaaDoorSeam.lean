/-
  The seam: what two texts together have for characters. Plain facts.
-/
import Derived.Test.YtkknmbkfiiidmaaDoorCloses
namespace Go.Proofs.YtkknmbkfiiidmaaDoor
open Go.RowKit

theorem dec_right_or (l : Bs) : rightR (Lib.decodeL l).1 (Lib.decodeL l).2 = true ∨ Lib.decodeL l = (65533, 1) := by
  rcases dec_cases l with ⟨a, e⟩ | ⟨_, e⟩ | ⟨_, e⟩ | ⟨_, e⟩ | ⟨_, _, _, _, e⟩
  · left; rw [e]; exact rightR_ne (by simp only; omega) 1
  · left; rw [e]; exact rightR_two _ _ (by simp)
  · left; rw [e]; exact rightR_two _ _ (by simp)
  · left; rw [e]; exact rightR_two _ _ (by simp)
  · right; exact e

theorem dec_same {p b : Bs} (hne : p ≠ []) (hw : (Lib.decodeL (p ++ b)).2 ≤ p.length) : Lib.decodeL p = Lib.decodeL (p ++ b) := by
  rcases dec_right_or (p ++ b) with h | h
  · exact dec_prefix hne h hw
  · rcases dec_right_or p with h2 | h2
    · exact (dec_extend hne h2).symm
    · rw [h, h2]

theorem Border.zero (l : Bs) : Border l 0 := ⟨[], Cut.zero l⟩
theorem Border.drop {l : Bs} {q p : Nat} (hq : Border l q) (hp : Border l p) (h : q ≤ p) : Border (l.drop q) (p - q) := by
  obtain ⟨a, ha⟩ := hq
  obtain ⟨b, hb⟩ := hp
  obtain ⟨c, hbc, hc, hs⟩ := ha.unique hb h
  refine ⟨c, ?_, ?_, ?_⟩
  · have := hb.1; simp; omega
  · rw [List.drop_drop, show q + (p - q) = p from by omega]; exact hc
  · omega

/-- Where a border lies between two texts, their characters are those of each. -/
theorem tk_append : ∀ (n : Nat) (a b : Bs), a.length ≤ n → Border (a ++ b) a.length → tk (a ++ b) = tk a ++ tk b
  | 0, a, b, h, _ => by
    have : a = [] := List.length_eq_zero_iff.1 (by omega)
    subst this
    simp [tk_nil]
  | n + 1, a, b, h, hb => by
    by_cases ha : a = []
    · subst ha; simp [tk_nil]
    · have hl : 1 ≤ a.length := by cases a; contradiction; simp
      have hne : a ++ b ≠ [] := List.append_ne_nil_of_left_ne_nil ha _
      have hw1 := (wid_bounds (a ++ b)).1
      have hw : (Lib.decodeL (a ++ b)).2 ≤ a.length := by
        rcases Nat.lt_or_ge a.length (Lib.decodeL (a ++ b)).2 with h2 | h2
        · exact absurd hb (not_border_within (Border.zero _) (by omega) (by simpa using h2) (by simp; omega))
        · exact h2
      have hd := dec_same ha hw
      have hst := (Cut.zero (a ++ b)).step (by simp; omega)
      rw [List.drop_zero, Nat.zero_add] at hst
      have hB := Border.drop ⟨_, hst⟩ hb hw
      rw [tk_cons _ hne, tk_cons a ha, hd]
      have e : (a ++ b).drop (Lib.decodeL (a ++ b)).2 = a.drop (Lib.decodeL (a ++ b)).2 ++ b := List.drop_append_of_le_length hw
      rw [e] at hB ⊢
      have := tk_append n (a.drop (Lib.decodeL (a ++ b)).2) b (by simp; omega) (by simpa using hB)
      rw [this]
      rfl

/-- Bytes that follow are wrong ones, each by itself. -/
theorem tk_fol : ∀ (n : Nat) (l : Bs), l.length = n → (∀ i, i < n → Fol (by' l i)) → tk l = List.replicate n (65533, 1)
  | 0, l, h, _ => by
    have : l = [] := List.length_eq_zero_iff.1 h
    subst this; rfl
  | n + 1, l, h, hf => by
    have hne : l ≠ [] := by intro e; rw [e] at h; cases h
    have hd := dec_fol l (hf 0 (by omega))
    rw [tk_cons l hne, hd, List.replicate_succ]
    congr 1
    exact tk_fol n (l.drop 1) (by simp; omega) (fun i hi => by rw [by_drop]; exact hf (1 + i) (by omega))

/-- A proper beginning by itself: wrong bytes. -/
theorem tk_proper {p : Bs} (h : properB p = true) : tk p = List.replicate p.length (65533, 1) := by
  have hf := proper_full h
  have hn := not_full hf.2.1 hf.1
  have hne : p ≠ [] := by intro e; rw [e] at hf; simp at hf
  have hd : Lib.decodeL p = (65533, 1) := by
    rcases dec_right_or p with h2 | h2
    · have := right_full hne h2; rw [hf.1] at this; cases this
    · exact h2
  obtain ⟨m, hm⟩ : ∃ m, p.length = m + 1 := ⟨p.length - 1, by omega⟩
  rw [tk_cons p hne, hd, hm, List.replicate_succ]
  congr 1
  refine tk_fol m (p.drop 1) (by simp; omega) (fun i hi => ?_)
  rw [by_drop]
  exact hn.2.2.2.1 (1 + i) (by omega) (by omega) (by omega)

/-- the pending bytes, and how many of the next close them -/
def pendP (a : Bs) : Bs := tailOf a (pendN a)
def closK (a b : Bs) : Nat := closN (pendP a) b

theorem pendP_len (a : Bs) : (pendP a).length = pendN a := tail_len (pend_le a).2
theorem pendP_proper (a : Bs) (h : pendN a ≠ 0) : properB (pendP a) = true := by
  have hp : ∀ k, pendN a = k → k ≠ 0 → properB (tailOf a k) = true := by
    intro k hk h0
    unfold pendN at hk
    split at hk
    · rename_i hh; subst hk; exact hh.2
    · split at hk
      · rename_i hh; subst hk; exact hh.2
      · split at hk
        · rename_i hh; subst hk; exact hh.2
        · exact absurd hk.symm h0
  exact hp _ rfl h
theorem take_pendP (a : Bs) : a.take (a.length - pendN a) ++ pendP a = a := List.take_append_drop _ _

theorem closK_proper {a b : Bs} (h : closK a b ≠ 0) : properB (pendP a) = true ∧ fB (pendP a ++ b.take 4) = true ∧ fW (pendP a ++ b.take 4) = pendN a + closK a b := by
  unfold closK closN at h ⊢
  split at h
  · rename_i hh
    have := proper_longer hh.1 hh.2
    rw [if_pos hh]
    refine ⟨hh.1, hh.2, ?_⟩
    rw [pendP_len] at this ⊢
    omega
  · exact absurd rfl h

theorem dec_whole {a b : Bs} (h : closK a b ≠ 0) : (Lib.decodeL (pendP a ++ b)).2 = pendN a + closK a b ∧ rightR (Lib.decodeL (pendP a ++ b)).1 (Lib.decodeL (pendP a ++ b)).2 = true := by
  obtain ⟨h1, h2, h3⟩ := closK_proper h
  obtain ⟨e0, e1, e2⟩ := fB_ne h2
  have hx := dec_extend (b := b.drop 4) e0 e1
  rw [List.append_assoc, List.take_append_drop] at hx
  rw [hx, ← e2, h3]
  exact ⟨rfl, by rw [← h3, e2]; exact e1⟩

/-- Closed: a character lies over the seam. -/
theorem seam_closed {a b : Bs} (h : closK a b ≠ 0) :
    ¬ Border (a ++ b) a.length ∧
    tk (a ++ b) = tk (a.take (a.length - pendN a)) ++ (Lib.decodeL (pendP a ++ b)) :: tk (b.drop (closK a b)) ∧
    tk a = tk (a.take (a.length - pendN a)) ++ List.replicate (pendN a) (65533, 1) ∧
    tk b = List.replicate (closK a b) (65533, 1) ++ tk (b.drop (closK a b)) ∧ closK a b ≤ b.length := by
  obtain ⟨hpr, hfb, hfw⟩ := closK_proper h
  obtain ⟨hw, hr⟩ := dec_whole h
  have hpf := proper_full hpr
  have hnf := not_full hpf.2.1 hpf.1
  have hpl := pendP_len a
  have hle := pend_le a
  have hcb := closN_bounds (pendP a) b
  have hsplit := take_pendP a
  have ht : (a.take (a.length - pendN a)).length = a.length - pendN a := by simp
  have hne : pendP a ++ b ≠ [] := by
    intro e; have := congrArg List.length e; have h9 := hpf.2.1; rw [List.length_append] at this; simp at this; rw [this.1] at h9; simp at h9
  have hbyA : by' a (a.length - pendN a) = by' (pendP a) 0 := by unfold pendP tailOf; rw [by_drop, Nat.add_zero]
  have hn1 : 1 ≤ pendN a := by rw [← hpl]; exact hpf.2.1
  have hbyAB : by' (a ++ b) (a.length - pendN a) = by' (pendP a) 0 := by rw [by_append_left _ _ _ (by omega), hbyA]
  have hB1 : Border (a ++ b) (a.length - pendN a) := border_nofol _ _ (by simp; omega) (by rw [hbyAB]; exact hnf.1)
  have hB2 : Border a (a.length - pendN a) := border_nofol _ _ (by omega) (by rw [hbyA]; exact hnf.1)
  have hdr : (a ++ b).drop (a.length - pendN a) = pendP a ++ b := by rw [List.drop_append_of_le_length (by omega)]; rfl
  have htkp := tk_proper hpr
  rw [hpl] at htkp
  refine ⟨?_, ?_, ?_, ?_, hcb.2⟩
  · exact not_border_within hB1 (by omega) (by rw [hdr, hw]; omega) (by simp; omega)
  · have e : a ++ b = a.take (a.length - pendN a) ++ (pendP a ++ b) := by rw [← List.append_assoc, hsplit]
    have h1 := tk_append _ (a.take (a.length - pendN a)) (pendP a ++ b) (Nat.le_refl _) (by rw [← e, ht]; exact hB1)
    rw [← e] at h1
    rw [h1, tk_cons _ hne, hw]
    have e2 : (pendP a ++ b).drop (pendN a + closK a b) = b.drop (closK a b) := by rw [← hpl, List.drop_append, List.drop_of_length_le (by omega)]; simp
    rw [e2]
  · have h1 := tk_append _ (a.take (a.length - pendN a)) (pendP a) (Nat.le_refl _) (by rw [hsplit, ht]; exact hB2)
    rw [hsplit] at h1
    rw [h1, htkp]
  · have hfol : ∀ i, i < closK a b → Fol (by' b i) := by
      intro i hi
      have := wid_fol (pendP a ++ b) (pendN a + i) (by omega) (by rw [hw]; omega)
      rwa [← hpl, by_append_right] at this
    have hBk : Border b (closK a b) := border_run (Border.zero b) _ (Nat.zero_le _) hcb.2 (fun i _ h2 => hfol i h2)
    have htl : (b.take (closK a b)).length = closK a b := by rw [List.length_take]; exact Nat.min_eq_left hcb.2
    have h1 := tk_append _ (b.take (closK a b)) (b.drop (closK a b)) (Nat.le_refl _) (by rw [List.take_append_drop, htl]; exact hBk)
    rw [List.take_append_drop] at h1
    rw [h1, tk_fol (closK a b) (b.take (closK a b)) htl (fun i hi => by rw [by_take _ _ _ hi]; exact hfol i hi)]

/-- Not closed: a border lies at the seam. -/
theorem seam_open {a b : Bs} (h : closK a b = 0) : Border (a ++ b) a.length := by
  obtain ⟨done, q, hc, hq, hcase⟩ := Cut.find (a ++ b) a.length (by simp)
  rcases hcase with ⟨hl, hw⟩ | ⟨h1, h2⟩
  · by_cases e : q = a.length
    · subst e; exact ⟨done, hc⟩
    · exfalso
      -- the character at q lies over the seam
      have hj : q < a.length := by omega
      have hdr : (a ++ b).drop q = a.drop q ++ b := List.drop_append_of_le_length (by omega)
      rw [hdr] at hw
      have h4 := (wid_bounds (a.drop q ++ b)).2
      have hdl : (a.drop q).length = a.length - q := by simp
      have hr : rightR (Lib.decodeL (a.drop q ++ b)).1 (Lib.decodeL (a.drop q ++ b)).2 = true := by
        rcases dec_right_or (a.drop q ++ b) with h2 | h2
        · exact h2
        · rw [h2] at hw; simp at hw; omega
      have hj3 : a.length - q ≤ 3 := by omega
      have hne : a.drop q ≠ [] := by intro e; rw [e] at hdl; simp at hdl; omega
      have hne2 : a.drop q ++ b ≠ [] := List.append_ne_nil_of_left_ne_nil hne _
      have hwl := wid_le _ hne2
      -- the whole sequence
      obtain ⟨w, hwd⟩ : ∃ w, w = (Lib.decodeL (a.drop q ++ b)).2 := ⟨_, rfl⟩
      rw [← hwd] at hw h4 hwl
      have hlen : (a.drop q ++ b.take (w - (a.length - q))).length = w := by
        simp at hwl; simp; omega
      have hpre : a.drop q ++ b = (a.drop q ++ b.take (w - (a.length - q))) ++ b.drop (w - (a.length - q)) := by rw [List.append_assoc, List.take_append_drop]
      have hne3 : a.drop q ++ b.take (w - (a.length - q)) ≠ [] := List.append_ne_nil_of_left_ne_nil hne _
      have hds := dec_prefix (p := a.drop q ++ b.take (w - (a.length - q))) (b := b.drop (w - (a.length - q))) hne3 (by rw [← hpre]; exact hr) (by rw [← hpre, ← hwd, hlen]; exact Nat.le_refl _)
      rw [← hpre] at hds
      have hseq : seqB (a.drop q ++ b.take (w - (a.length - q))) = true := by
        rw [seqB_iff, hds]
        exact ⟨hne3, hr, by rw [← hwd, hlen]⟩
      have htk : b.take (w - (a.length - q)) ≠ [] := by
        intro e; rw [e, List.append_nil] at hlen; rw [hdl] at hlen; omega
      have hnf := part_notfull hne htk hseq
      have hnf2 := not_full (by rw [hdl]; omega) hnf
      have hpn : pendN a = a.length - q := by
        have := pend_back (l := a) (k := a.length - q) (by omega) hj3 (by omega) (fun j h1 h2 => by
          have := hnf2.2.2.2.1 (a.length - q - j) (by omega) (by rw [hdl]; omega) (by omega)
          rwa [by_drop, show q + (a.length - q - j) = a.length - j from by omega] at this) (by
          have := hnf2.1
          rwa [by_drop, Nat.add_zero, show q = a.length - (a.length - q) from by omega] at this)
        have et : tailOf a (a.length - q) = a.drop q := by unfold tailOf; rw [show a.length - (a.length - q) = q from by omega]
        rw [et, hnf] at this
        simpa using this
      have hpp : pendP a = a.drop q := by unfold pendP tailOf; rw [hpn, show a.length - (a.length - q) = q from by omega]
      have hpr : properB (a.drop q) = true := proper_of (by rw [hdl]; omega) hnf
      -- so it is closed
      have hpre4 : a.drop q ++ b = (a.drop q ++ b.take 4) ++ b.drop 4 := by rw [List.append_assoc, List.take_append_drop]
      have hne4 : a.drop q ++ b.take 4 ≠ [] := List.append_ne_nil_of_left_ne_nil hne _
      have hds4 := dec_prefix (p := a.drop q ++ b.take 4) (b := b.drop 4) hne4 (by rw [← hpre4]; exact hr) (by
        rw [← hpre4, ← hwd]; simp at hwl; simp; omega)
      rw [← hpre4] at hds4
      have hfb := fB_of hne4 (by rw [hds4]; exact hr)
      have hlong := proper_longer hpr hfb.1
      unfold closK closN at h
      rw [hpp, if_pos ⟨hpr, hfb.1⟩] at h
      omega
  · exact h2 ▸ ⟨done, hc⟩

theorem seam_border (a b : Bs) : Border (a ++ b) a.length ↔ closK a b = 0 := by
  constructor
  · intro h
    by_cases e : closK a b = 0
    · exact e
    · exact absurd h (seam_closed e).1
  · exact seam_open

/-- How many characters there are together. -/
theorem seam_count (a b : Bs) : (closK a b = 0 → countN (a ++ b) = countN a + countN b) ∧ (closK a b ≠ 0 → countN (a ++ b) + pendN a + closK a b = countN a + countN b + 1) := by
  constructor
  · intro h
    unfold countN
    rw [tk_append _ a b (Nat.le_refl _) (seam_open h)]; simp
  · intro h
    obtain ⟨_, h2, h3, h4, _⟩ := seam_closed h
    have e2 := congrArg List.length h2
    have e3 := congrArg List.length h3
    have e4 := congrArg List.length h4
    simp at e2 e3 e4
    unfold countN
    omega
end Go.Proofs.YtkknmbkfiiidmaaDoor
