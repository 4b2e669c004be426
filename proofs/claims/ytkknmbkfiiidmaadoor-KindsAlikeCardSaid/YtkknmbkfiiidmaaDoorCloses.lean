/-
  What closes what is pending: plain facts; the contracts of Closes, the program's and the document's.
-/
import Derived.Test.YtkknmbkfiiidmaaDoorReads
namespace Go.Proofs.YtkknmbkfiiidmaaDoor
open Go.RowKit

/-- how many of the next bytes close what is pending -/
def closN (p b : Bs) : Nat := if properB p = true ∧ fB (p ++ b.take 4) = true then fW (p ++ b.take 4) - p.length else 0

theorem pend_len_iff {p : Bs} (h : p ≠ []) : pendN p = p.length ↔ properB p = true := by
  have h1 : 1 ≤ p.length := by cases p; contradiction; simp
  have ht : p.length ≤ 3 → tailOf p p.length = p := fun _ => by unfold tailOf; simp
  constructor
  · intro e
    have h3 := (pend_le p).1
    unfold pendN at e
    split at e
    · rename_i hh
      have := ht (by omega)
      rw [← e] at this
      rw [this] at hh
      exact hh.2
    · split at e
      · rename_i hh
        have := ht (by omega)
        rw [← e] at this
        rw [this] at hh
        exact hh.2
      · split at e
        · rename_i hh
          have := ht (by omega)
          rw [← e] at this
          rw [this] at hh
          exact hh.2
        · omega
  · intro hp
    have hf := proper_full hp
    have hn := not_full hf.2.1 hf.1
    have htl := ht hf.2.2
    have := pend_back (l := p) (k := p.length) hf.2.1 hf.2.2 (Nat.le_refl _) (fun j h1 h2 => by
      exact hn.2.2.2.1 (p.length - j) (by omega) (by omega) (by omega)) (by rw [Nat.sub_self]; exact hn.1)
    rw [this, htl, hf.1]
    simp

theorem dec_ascii {l : Bs} (h : by' l 0 < 128) : Lib.decodeL l = (by' l 0, 1) := by
  rcases dec_cases l with ⟨_, e⟩ | ⟨a, _⟩ | ⟨a, _⟩ | ⟨a, _⟩ | ⟨a, _⟩
  · exact e
  · have := a.1; omega
  · have := a.1; omega
  · have := a.1; omega
  · omega

/-- a right first character that lies in the first part is the first part's -/
theorem dec_prefix {p b : Bs} (hne : p ≠ []) (hr : rightR (Lib.decodeL (p ++ b)).1 (Lib.decodeL (p ++ b)).2 = true) (hw : (Lib.decodeL (p ++ b)).2 ≤ p.length) : Lib.decodeL p = Lib.decodeL (p ++ b) := by
  have h1 : 1 ≤ p.length := by cases p; contradiction; simp
  have c : ∀ k, k < p.length → by' (p ++ b) k = by' p k := fun k h => by_append_left _ _ _ h
  rcases dec_cases (p ++ b) with ⟨a, e⟩ | ⟨a, e⟩ | ⟨a, e⟩ | ⟨a, e⟩ | ⟨_, _, _, _, e⟩ <;> rw [e] at hw hr ⊢ <;> simp only at hw
  · rw [c 0 h1] at a ⊢; exact dec_ascii a
  · rw [c 0 h1, c 1 (by omega)] at a ⊢
    exact dec_ok2 (l := p) ⟨a.1, a.2.1, hw, a.2.2.2⟩
  · rw [c 0 h1, c 1 (by omega), c 2 (by omega)] at a ⊢
    exact dec_ok3 (l := p) ⟨a.1, a.2.1, hw, a.2.2.2⟩
  · rw [c 0 h1, c 1 (by omega), c 2 (by omega), c 3 (by omega)] at a ⊢
    exact dec_ok4 (l := p) ⟨a.1, a.2.1, hw, a.2.2.2⟩
  · cases hr

/-- a right first character stays, whatever comes behind -/
theorem dec_extend {p b : Bs} (hne : p ≠ []) (hr : rightR (Lib.decodeL p).1 (Lib.decodeL p).2 = true) : Lib.decodeL (p ++ b) = Lib.decodeL p := by
  have h1 : 1 ≤ p.length := by cases p; contradiction; simp
  have c : ∀ k, k < p.length → by' (p ++ b) k = by' p k := fun k h => by_append_left _ _ _ h
  have hl : p.length ≤ (p ++ b).length := by simp
  have hw := wid_le p hne
  rcases dec_cases p with ⟨a, e⟩ | ⟨a, e⟩ | ⟨a, e⟩ | ⟨a, e⟩ | ⟨_, _, _, _, e⟩ <;> rw [e] at hw hr ⊢ <;> simp only at hw
  · rw [← c 0 h1] at a ⊢; exact dec_ascii a
  · rw [← c 0 h1, ← c 1 (by omega)] at a ⊢
    exact dec_ok2 ⟨a.1, a.2.1, by omega, a.2.2.2⟩
  · rw [← c 0 h1, ← c 1 (by omega), ← c 2 (by omega)] at a ⊢
    exact dec_ok3 ⟨a.1, a.2.1, by omega, a.2.2.2⟩
  · rw [← c 0 h1, ← c 1 (by omega), ← c 2 (by omega), ← c 3 (by omega)] at a ⊢
    exact dec_ok4 ⟨a.1, a.2.1, by omega, a.2.2.2⟩
  · cases hr

theorem fB_ne {l : Bs} (h : fB l = true) : l ≠ [] ∧ rightR (Lib.decodeL l).1 (Lib.decodeL l).2 = true ∧ fW l = (Lib.decodeL l).2 := by
  unfold fB at h
  by_cases e : l = []
  · rw [if_pos e] at h; cases h
  · rw [if_neg e] at h
    exact ⟨e, h, by unfold fW; rw [if_neg e]⟩
theorem fB_of {l : Bs} (h : l ≠ []) (hr : rightR (Lib.decodeL l).1 (Lib.decodeL l).2 = true) : fB l = true ∧ fW l = (Lib.decodeL l).2 := by
  unfold fB fW
  rw [if_neg h, if_neg h]
  exact ⟨hr, rfl⟩

/-- a proper beginning, gone on with: a right first character of the whole is longer -/
theorem proper_longer {p b : Bs} (hp : properB p = true) (hr : fB (p ++ b) = true) : p.length < fW (p ++ b) := by
  have hf := proper_full hp
  have hne : p ≠ [] := by intro e; rw [e] at hf; simp at hf
  obtain ⟨_, h1, h2⟩ := fB_ne hr
  rw [h2]
  rcases Nat.lt_or_ge p.length (Lib.decodeL (p ++ b)).2 with h | h
  · exact h
  · exfalso
    have := dec_prefix hne h1 h
    have hfu := right_full hne (by rw [this]; exact h1)
    rw [hf.1] at hfu; cases hfu

theorem fW_le {l : Bs} (h : fB l = true) : fW l ≤ l.length ∧ fW l ≤ 4 := by
  obtain ⟨h0, _, h2⟩ := fB_ne h
  rw [h2]
  exact ⟨wid_le l h0, (wid_bounds l).2⟩

theorem closN_bounds (p b : Bs) : closN p b ≤ 3 ∧ closN p b ≤ b.length := by
  unfold closN
  split
  · rename_i h
    have h1 := proper_longer h.1 h.2
    have h2 := fW_le h.2
    have h3 := proper_full h.1
    have : (p ++ b.take 4).length ≤ p.length + b.length := by simp; omega
    omega
  · omega

/-- the first n bytes of the next text close what is pending, just where n is told -/
theorem clos_hit {p b : Bs} (hp : properB p = true) {n : Nat} (h1 : 1 ≤ n) (h3 : n ≤ 3) (hb : n ≤ b.length) :
    (fB (p ++ b.take n) = true ∧ fW (p ++ b.take n) = p.length + n) ↔ closN p b = n := by
  have ht : p ++ b.take 4 = (p ++ b.take n) ++ ((b.take 4).drop n) := by
    have : b.take n = (b.take 4).take n := by rw [List.take_take, Nat.min_eq_left (by omega)]
    rw [List.append_assoc, this, List.take_append_drop]
  have hlen : (p ++ b.take n).length = p.length + n := by simp; omega
  constructor
  · rintro ⟨hr, hw⟩
    obtain ⟨e0, e1, e2⟩ := fB_ne hr
    have hx := dec_extend (b := (b.take 4).drop n) e0 e1
    rw [← ht] at hx
    have hne : p ++ b.take 4 ≠ [] := by rw [ht]; exact List.append_ne_nil_of_left_ne_nil e0 _
    have h4 := fB_of hne (by rw [hx]; exact e1)
    unfold closN
    rw [if_pos ⟨hp, h4.1⟩, h4.2, hx, ← e2, hw]
    omega
  · intro hc
    unfold closN at hc
    split at hc
    · rename_i hh
      obtain ⟨e0, e1, e2⟩ := fB_ne hh.2
      have hw : (Lib.decodeL (p ++ b.take 4)).2 = p.length + n := by have := proper_longer hh.1 hh.2; omega
      have hne : p ++ b.take n ≠ [] := by intro e; rw [e] at hlen; simp at hlen; omega
      have hx := dec_prefix (p := p ++ b.take n) (b := (b.take 4).drop n) hne (by rw [← ht]; exact e1) (by rw [← ht, hw, hlen]; exact Nat.le_refl _)
      rw [← ht] at hx
      have h4 := fB_of hne (by rw [hx]; exact e1)
      exact ⟨h4.1, by rw [h4.2, hx, hw]⟩
    · omega

theorem bs_append (s t : ByteArray) : bs (s ++ t) = bs s ++ bs t := by
  unfold bs
  rw [ByteArray.data_append, Array.toList_append]
theorem bs_take (s : ByteArray) (n : Nat) : bs (s.extract 0 n) = (bs s).take n := by
  rw [bs_extract, List.drop_zero, Nat.sub_zero]

set_option maxHeartbeats 1000000 in
theorem closes_any (p b : ByteArray) (hp : p.size ≤ 140737488351232) (hb : b.size ≤ 140737488351232) (w : World) (hT : Tabs w) :
    Calls Tryd.prog 34 #[.string p, .string b] w fun e w' => e = .returned (.int .i64 (closN (bs p) (bs b))) ∧ Below w.heap.size w w' := by
  have HT := Lib.hid hT
  clear hT
  by_cases h0 : p.size = 0
  · have HV := Lib.hid (show closN (bs p) (bs b) = 0 by unfold closN; rw [if_neg]; rw [bs_nil h0, properB_short (by simp)]; simp)
    go_enter Tryd.func34, Tryd.ntmps34
    go_wp2_with fail
    go_ret
    rw [HV.out]
    exact ⟨rfl, Below.refl _ _⟩
  have hn0 : ((p.size : Int) == 0) = false := beq_eq_false_iff_ne.2 (by omega)
  have hiff := pend_len_iff (bs_ne h0)
  rw [← size_bs] at hiff
  by_cases hpr : properB (bs p) = true
  · have hpn := hiff.2 hpr
    have hP := fun w (hT : Tabs w) => pending_any p hp w hT
    rw [hpn] at hP
    have HP := Lib.hid hP
    have hq : ((p.size : Int) != (p.size : Int)) = false := by simp
    have hp3 := (proper_full hpr).2.2
    rw [← size_bs] at hp3
    have hmin : min (b.size : Int) 4 = ((min b.size 4 : Nat) : Int) := by omega
    have hmb : min b.size 4 ≤ b.size := Nat.min_le_left _ _
    have hm4 : min b.size 4 ≤ 4 := Nat.min_le_right _ _
    have hes : (b.extract 0 (min b.size 4)).size ≤ 4 := by rw [size_bs, bs_take]; simp; omega
    have htk : bs (p ++ b.extract 0 (min b.size 4)) = bs p ++ (bs b).take 4 := by
      rw [bs_append, bs_take]
      congr 1
      by_cases h : 4 ≤ b.size
      · rw [Nat.min_eq_right h]
      · rw [Nat.min_eq_left (by omega), List.take_of_length_le (by rw [size_bs]; exact Nat.le_refl _), List.take_of_length_le (by rw [← size_bs]; omega)]
    have hF := fun w (hT : Tabs w) => first_any (p ++ b.extract 0 (min b.size 4)) w hT
    rw [htk] at hF
    have HF := Lib.hid hF
    clear hP hpn hiff h0 htk hF
    go_enter Tryd.func34, Tryd.ntmps34
    go_wp2_with fail
    (with_reducible refine (HP.out _ HT.out).mono ?_)
    rintro e w1 ⟨rfl, hb1⟩
    go_wp2_with fail
    (with_reducible refine (HF.out _ (HT.out.below hb1 (Nat.le_refl _))).mono ?_)
    rintro e w2 ⟨rfl, hb2⟩
    cases hr : fB (bs p ++ (bs b).take 4)
    · have HV := Lib.hid (show closN (bs p) (bs b) = 0 by unfold closN; rw [if_neg]; rintro ⟨_, h⟩; rw [hr] at h; cases h)
      go_wp2_with fail
      go_ret
      rw [HV.out]
      exact ⟨rfl, nx hb1 hb2⟩
    · have hlong := proper_longer hpr hr
      have hw4 := (fW_le hr).2
      rw [← size_bs] at hlong
      have HV := Lib.hid (show ((closN (bs p) (bs b) : Nat) : Int) = (fW (bs p ++ (bs b).take 4) : Int) - (p.size : Int) by unfold closN; rw [if_pos ⟨hpr, hr⟩, ← size_bs]; omega)
      go_wp2_with fail
      go_ret
      rw [HV.out]
      exact ⟨rfl, nx hb1 hb2⟩
  · have hpn : pendN (bs p) ≠ p.size := fun e => hpr (hiff.1 e)
    have hq : ((pendN (bs p) : Int) != (p.size : Int)) = true := by simp; omega
    have HV := Lib.hid (show closN (bs p) (bs b) = 0 by unfold closN; rw [if_neg]; rintro ⟨h, _⟩; exact hpr h)
    clear hpn hiff hpr h0
    go_enter Tryd.func34, Tryd.ntmps34
    go_wp2_with fail
    (with_reducible refine (pending_any p hp _ HT.out).mono ?_)
    rintro e w1 ⟨rfl, hb1⟩
    go_wp2_with fail
    go_ret
    rw [HV.out]
    exact ⟨rfl, hb1⟩

end Go.Proofs.YtkknmbkfiiidmaaDoor
