/-
  A text folded: the plain law: its characters, and that it is alike to what it was.
-/
import Derived.Test.YtkknmbkfiiidmaaDoorRefAlike
import Derived.Test.YtkknmbkfiiidmaaDoorKParts
import Derived.Test.YtkknmbkfiiidmaaDoorBackLaw
namespace Go.Proofs.YtkknmbkfiiidmaaDoor
open Go.RowKit

/-- the character at a text's beginning, folded; a wrong byte as it is -/
def pieceB (l : Bs) : Bs := if rightR ((Lib.decodeL l).1 : Int) (Lib.decodeL l).2 = true then Lib.encodeRune (foldZ ((Lib.decodeL l).1 : Int)) else l.take 1
def foldF : Nat → Bs → Bs
  | 0, _ => []
  | n + 1, l => if l = [] then [] else pieceB l ++ foldF n (l.drop (Lib.decodeL l).2)
def foldB (l : Bs) : Bs := foldF l.length l
theorem foldF_fuel : ∀ (f g : Nat) (l : Bs), l.length ≤ f → l.length ≤ g → foldF f l = foldF g l
  | 0, 0, _, _, _ => rfl
  | 0, g + 1, l, h, _ => by
    have : l = [] := List.length_eq_zero_iff.1 (by omega)
    subst this
    simp [foldF]
  | f + 1, 0, l, _, h => by
    have : l = [] := List.length_eq_zero_iff.1 (by omega)
    subst this
    simp [foldF]
  | f + 1, g + 1, l, h, k => by
    unfold foldF
    split
    · rfl
    · have := (wid_bounds l).1
      rw [foldF_fuel f g (l.drop (Lib.decodeL l).2) (by rw [List.length_drop]; omega) (by rw [List.length_drop]; omega)]
theorem foldB_nil : foldB [] = [] := rfl
theorem foldB_cons (l : Bs) (h : l ≠ []) : foldB l = pieceB l ++ foldB (l.drop (Lib.decodeL l).2) := by
  unfold foldB
  obtain ⟨n, hn⟩ : ∃ n, l.length = n + 1 := ⟨l.length - 1, by cases l; contradiction; simp⟩
  have hw := (wid_bounds l).1
  rw [hn]
  show (if l = [] then [] else _) = _
  rw [if_neg h]
  congr 1
  exact foldF_fuel _ _ _ (by rw [List.length_drop]; omega) (Nat.le_refl _)

/-- a rune that a text's character has, folded: it may be; its bytes are a right character -/
theorem fold_ok (l : Bs) : mayB (foldZ ((Lib.decodeL l).1 : Int)) = true := by
  rcases fold_may ((Lib.decodeL l).1 : Int) with h | h
  · rw [h]; exact dec_may l
  · exact h.2.1
theorem right_enc (r : Int) (h : mayB r = true) : rightR r (Lib.encodeRune r).length = true := by
  by_cases e : r = 65533
  · subst e
    rw [show (Lib.encodeRune 65533).length = 3 from by decide +kernel]
    rfl
  · exact rightR_ne e _
theorem nat_of_may {r : Int} (h : mayB r = true) : ((r.toNat : Nat) : Int) = r := by
  have := of_decide_eq_true h
  omega
theorem enc_ne (r : Int) : Lib.encodeRune r ≠ [] := by
  intro e
  have h := congrArg List.length e
  have := (Lib.encodeRuneZ_length r).1
  rw [encodeRune_len] at h
  rw [List.length_nil] at h
  omega
theorem enc_nofol (r : Int) (h : mayB r = true) (x : Bs) : ¬ Fol (by' (Lib.encodeRune r ++ x) 0) := by
  intro hf
  have h1 := dec_fol _ hf
  rw [dec_enc r h x] at h1
  have h2 := right_enc r h
  have e1 : r.toNat = 65533 := congrArg Prod.fst h1
  have e2 : (Lib.encodeRune r).length = 1 := congrArg Prod.snd h1
  have := nat_of_may h
  rw [e2, ← this, e1] at h2
  cases h2
theorem wrong_one {l : Bs} (h : rightR ((Lib.decodeL l).1 : Int) (Lib.decodeL l).2 = false) : Lib.decodeL l = (65533, 1) := by
  rcases dec_right_or l with k | k
  · rw [k] at h; cases h
  · exact k

/-- following bytes at the beginning of what is folded stood there before -/
theorem fol_same : ∀ (j : Nat) (l : Bs), (∀ i, i < j → Fol (by' (foldB l) i)) → (foldB l).take j = l.take j ∧ j ≤ l.length
  | 0, l, _ => ⟨rfl, Nat.zero_le _⟩
  | j + 1, l, h => by
    have h0 := h 0 (by omega)
    by_cases hl : l = []
    · subst hl
      rw [foldB_nil] at h0
      unfold Fol by' at h0
      simp at h0
    · rw [foldB_cons l hl] at h h0 ⊢
      cases hr : rightR ((Lib.decodeL l).1 : Int) (Lib.decodeL l).2
      · have hd := wrong_one hr
        have hp : pieceB l = l.take 1 := by unfold pieceB; rw [if_neg (by rw [hr]; simp)]
        rw [hp, hd] at h ⊢
        obtain ⟨b, t, rfl⟩ : ∃ b t, l = b :: t := by cases l; contradiction; exact ⟨_, _, rfl⟩
        have ih := fol_same j t (fun i hi => h (i + 1) (by omega))
        refine ⟨?_, by simp; exact ih.2⟩
        show (b :: foldB t).take (j + 1) = (b :: t).take (j + 1)
        rw [List.take_succ_cons, List.take_succ_cons, ih.1]
      · have hp : pieceB l = Lib.encodeRune (foldZ ((Lib.decodeL l).1 : Int)) := by unfold pieceB; rw [if_pos hr]
        rw [hp] at h0
        exact absurd h0 (enc_nofol _ (fold_ok l) _)
theorem fold_wrong (b : UInt8) (t : Bs) (h : Lib.decodeL (b :: t) = (65533, 1)) : Lib.decodeL (b :: foldB t) = (65533, 1) := by
  rcases dec_right_or (b :: foldB t) with k | k
  · exfalso
    have hw := wid_le (b :: foldB t) (by simp)
    have hb := wid_bounds (b :: foldB t)
    obtain ⟨m, hm⟩ : ∃ m, (Lib.decodeL (b :: foldB t)).2 = m + 1 := ⟨(Lib.decodeL (b :: foldB t)).2 - 1, by omega⟩
    have hf := fol_same m t (fun i hi => by
      have := wid_fol (b :: foldB t) (i + 1) (by omega) (by omega)
      rwa [show by' (b :: foldB t) (i + 1) = by' (foldB t) i from rfl] at this)
    have e1 : (b :: foldB t) = (b :: t.take m) ++ (foldB t).drop m := by rw [← hf.1, List.cons_append, List.take_append_drop]
    have e2 : (b :: t) = (b :: t.take m) ++ t.drop m := by rw [List.cons_append, List.take_append_drop]
    have hpl : (b :: t.take m).length = m + 1 := by rw [List.length_cons, List.length_take, Nat.min_eq_left hf.2]
    have d1 := dec_same (p := b :: t.take m) (b := (foldB t).drop m) (by simp) (by rw [← e1, hm, hpl]; exact Nat.le_refl _)
    rw [← e1] at d1
    have d2 := dec_extend (p := b :: t.take m) (b := t.drop m) (by simp) (by rw [d1]; exact k)
    rw [← e2, h, d1] at d2
    rw [← d2] at k
    cases k
  · exact k

/-- a folded character -/
def fT (c : Nat × Nat) : Nat × Nat := if rightR (c.1 : Int) c.2 = true then ((foldZ (c.1 : Int)).toNat, (Lib.encodeRune (foldZ (c.1 : Int))).length) else (65533, 1)
theorem fold_head (l : Bs) (hl : l ≠ []) : foldB l ≠ [] ∧ Lib.decodeL (foldB l) = fT (Lib.decodeL l) ∧ (foldB l).drop (fT (Lib.decodeL l)).2 = foldB (l.drop (Lib.decodeL l).2) := by
  rw [foldB_cons l hl]
  cases hr : rightR ((Lib.decodeL l).1 : Int) (Lib.decodeL l).2
  · have hd := wrong_one hr
    have hp : pieceB l = l.take 1 := by unfold pieceB; rw [if_neg (by rw [hr]; simp)]
    have hf : fT (Lib.decodeL l) = (65533, 1) := by unfold fT; rw [if_neg (by rw [hr]; simp)]
    rw [hp, hf, hd]
    obtain ⟨b, t, rfl⟩ : ∃ b t, l = b :: t := by cases l; contradiction; exact ⟨_, _, rfl⟩
    exact ⟨by simp, fold_wrong b t hd, rfl⟩
  · have hp : pieceB l = Lib.encodeRune (foldZ ((Lib.decodeL l).1 : Int)) := by unfold pieceB; rw [if_pos hr]
    have hf : fT (Lib.decodeL l) = ((foldZ ((Lib.decodeL l).1 : Int)).toNat, (Lib.encodeRune (foldZ ((Lib.decodeL l).1 : Int))).length) := by unfold fT; rw [if_pos hr]
    rw [hp, hf]
    exact ⟨fun e => enc_ne _ (List.append_eq_nil_iff.1 e).1, dec_enc _ (fold_ok l) _, by rw [List.drop_left']; rfl⟩
theorem tk_fold : ∀ (n : Nat) (l : Bs), l.length ≤ n → tk (foldB l) = (tk l).map fT
  | 0, l, h => by
    have : l = [] := List.length_eq_zero_iff.1 (by omega)
    subst this
    rfl
  | n + 1, l, h => by
    by_cases hl : l = []
    · subst hl; rfl
    · obtain ⟨h1, h2, h3⟩ := fold_head l hl
      rw [tk_cons _ h1, tk_cons l hl, h2, h3, List.map_cons, tk_fold n _ (by have := (wid_bounds l).1; rw [List.length_drop]; omega)]
theorem count_fold (l : Bs) : countN (foldB l) = countN l := by unfold countN; rw [tk_fold _ l (Nat.le_refl _), List.length_map]
theorem at_cons (l : Bs) (hl : l ≠ []) (i : Nat) : atN l (i + 1) = (Lib.decodeL l).2 + atN (l.drop (Lib.decodeL l).2) i := by
  unfold atN
  rw [tk_cons l hl, List.take_succ_cons, wsum_cons]
theorem fold_byte : ∀ (i : Nat) (l : Bs), i < countN l → rightR (((tk l)[i]?.getD (0, 0)).1 : Nat) ((tk l)[i]?.getD (0, 0)).2 = false → by' (foldB l) (atN (foldB l) i) = by' l (atN l i)
  | i, l, hi, hr => by
    by_cases hl : l = []
    · subst hl
      exact absurd hi (Nat.not_lt_zero _)
    · obtain ⟨h1, h2, h3⟩ := fold_head l hl
      cases i with
      | zero =>
        rw [atN_zero, atN_zero]
        rw [tk_cons l hl] at hr
        have hr' : rightR ((Lib.decodeL l).1 : Int) (Lib.decodeL l).2 = false := hr
        have hp : pieceB l = l.take 1 := by unfold pieceB; rw [if_neg (by rw [hr']; simp)]
        rw [foldB_cons l hl, hp]
        obtain ⟨b, t, rfl⟩ : ∃ b t, l = b :: t := by cases l; contradiction; exact ⟨_, _, rfl⟩
        rfl
      | succ i =>
        rw [at_cons _ h1, at_cons l hl, h2, h3, ← by_drop, ← by_drop, h3]
        refine fold_byte i (l.drop (Lib.decodeL l).2) ?_ ?_
        · unfold countN at hi ⊢
          rw [tk_cons l hl] at hi
          simpa using hi
        · rw [tk_cons l hl] at hr
          exact hr
theorem alike_fold (l : Bs) : alikeB l (foldB l) = true := by
  rw [alike_iff]
  refine ⟨(count_fold l).symm, fun i hi => (same_iff _ _ _).2 ?_⟩
  have hi' : i < (tk l).length := hi
  have hg : (tk (foldB l))[i]?.getD (0, 0) = fT ((tk l)[i]?.getD (0, 0)) := by
    rw [tk_fold _ l (Nat.le_refl _), List.getElem?_map, List.getElem?_eq_getElem hi']
    rfl
  have hc := cut_at l i (Nat.le_of_lt hi)
  have hm : mayB (((tk l)[i]?.getD (0, 0)).1 : Nat) = true := by
    have hlt := atN_lt l (show i < countN l from hi) (Nat.le_refl _)
    rw [atN_full] at hlt
    have h := hc.get hlt
    rw [List.length_take, Nat.min_eq_left (Nat.le_of_lt hi')] at h
    rw [h]
    exact dec_may _
  have hfb := fold_byte i l hi
  rw [hg]
  obtain ⟨⟨r, n⟩, hc'⟩ : ∃ c, (tk l)[i]?.getD (0, 0) = c := ⟨_, rfl⟩
  rw [hc'] at hm hfb ⊢
  have hmf : mayB (foldZ (r : Int)) = true := by
    rcases fold_may (r : Int) with h | h
    · rw [h]; exact hm
    · exact h.2.1
  cases hr : rightR (r : Int) n
  · have hf : fT (r, n) = (65533, 1) := by unfold fT; rw [if_neg (by rw [hr]; simp)]
    rw [hf]
    exact ⟨rfl, fun h => (by cases h), fun _ => (hfb hr).symm⟩
  · have hf : fT (r, n) = ((foldZ (r : Int)).toNat, (Lib.encodeRune (foldZ (r : Int))).length) := by unfold fT; rw [if_pos hr]
    rw [hf]
    refine ⟨?_, fun _ => ?_, fun h => by cases h⟩
    · show true = rightR (((foldZ (r : Int)).toNat : Nat) : Int) _
      rw [nat_of_may hmf]
      exact (right_enc _ hmf).symm
    · show foldZ (r : Int) = foldZ (((foldZ (r : Int)).toNat : Nat) : Int)
      rw [nat_of_may hmf, fold_fold]

/-! ### what stands behind alike texts -/
theorem alike_app (a b x : Bs) (ha : Border (a ++ x) a.length) (hb : Border (b ++ x) b.length) (h : alikeB a b = true) : alikeB (a ++ x) (b ++ x) = true := by
  rw [alike_iff] at h ⊢
  obtain ⟨hc, hs⟩ := h
  have ta := tk_append _ a x (Nat.le_refl _) ha
  have tb := tk_append _ b x (Nat.le_refl _) hb
  have ca : countN (a ++ x) = countN a + countN x := by unfold countN; rw [ta, List.length_append]
  have cb : countN (b ++ x) = countN b + countN x := by unfold countN; rw [tb, List.length_append]
  have key : ∀ (y : Bs), tk (y ++ x) = tk y ++ tk x → ∀ i, (i < countN y → (tk (y ++ x))[i]?.getD (0, 0) = (tk y)[i]?.getD (0, 0) ∧ by' (y ++ x) (atN (y ++ x) i) = by' y (atN y i)) ∧
      (countN y ≤ i → (tk (y ++ x))[i]?.getD (0, 0) = (tk x)[i - countN y]?.getD (0, 0) ∧ by' (y ++ x) (atN (y ++ x) i) = by' x (atN x (i - countN y))) := by
    intro y ty i
    constructor
    · intro hi
      have hi' : i < (tk y).length := hi
      refine ⟨by rw [ty, List.getElem?_append_left hi'], ?_⟩
      have e : atN (y ++ x) i = atN y i := by unfold atN; rw [ty, List.take_append_of_le_length (Nat.le_of_lt hi')]
      have hlt := atN_lt y hi (Nat.le_refl _)
      rw [atN_full] at hlt
      rw [e, by_append_left _ _ _ hlt]
    · intro hi
      have hi' : (tk y).length ≤ i := hi
      refine ⟨by rw [ty, List.getElem?_append_right hi']; rfl, ?_⟩
      have e : atN (y ++ x) i = y.length + atN x (i - countN y) := by
        unfold atN
        rw [ty, List.take_append, List.take_of_length_le hi', wsum_append]
        have h9 : wsum ((tk y).take (tk y).length) = y.length := atN_full y
        rw [List.take_length] at h9
        rw [h9]
        rfl
      rw [e, by_append_right]
  refine ⟨by rw [ca, cb, hc], fun i hi => ?_⟩
  rcases Nat.lt_or_ge i (countN a) with hlt | hge
  · have h1 := (key a ta i).1 hlt
    have h2 := (key b tb i).1 (by omega)
    have := (same_iff a b i).1 (hs i hlt)
    refine (same_iff _ _ _).2 ?_
    rw [h1.1, h1.2, h2.1, h2.2]
    exact this
  · have h1 := (key a ta i).2 hge
    have h2 := (key b tb i).2 (by omega)
    refine (same_iff _ _ _).2 ?_
    rw [h1.1, h1.2, h2.1, h2.2, ← hc]
    exact ⟨rfl, fun _ => rfl, fun _ => rfl⟩
theorem alike_seam (a b c : Bs) (h : alikeB a b = true) : alikeB (a ++ (124 :: c)) (b ++ (124 :: c)) = true := by
  have key : ∀ y : Bs, Border (y ++ (124 :: c)) y.length := fun y => by
    refine border_nofol _ _ (by simp) ?_
    have := by_append_right y (124 :: c) 0
    rw [Nat.add_zero] at this
    rw [this]
    unfold Fol by'
    simp
  exact alike_app a b _ (key a) (key b) h
end Go.Proofs.YtkknmbkfiiidmaaDoor
