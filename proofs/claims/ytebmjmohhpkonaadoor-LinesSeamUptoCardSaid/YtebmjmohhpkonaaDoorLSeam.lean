/-
  The walk of LinesSeam: behind a 0A lines are those of what stands there alone.
-/
import Derived.Test.YtebmjmohhpkonaaDoorLSeamLaw
import Derived.Test.YtebmjmohhpkonaaDoorLWorks
import Derived.Test.YtebmjmohhpkonaaDoorTexts
namespace Go.Proofs.YtebmjmohhpkonaaDoor
open Go.RowKit

theorem bs_inj_l {a b : ByteArray} (h : bs a = bs b) : a = b := by
  obtain ⟨⟨a⟩⟩ := a
  obtain ⟨⟨b⟩⟩ := b
  have h1 : a = b := h
  rw [h1]
theorem lnT_ext (s : ByteArray) (k : Nat) : lnT s k = s.extract (lnX (bs s) k).1 ((lnX (bs s) k).2.1 + (lnX (bs s) k).2.2) := rfl
set_option maxHeartbeats 1000000 in
/-- the seam, in texts -/
theorem seam_texts (x b : ByteArray) (hx : x.size ≠ 0) (h10 : by' (bs x) (x.size - 1) = 10) :
    ∃ j, lnN (bs x) = j + 1 ∧ 1 ≤ j ∧ lnT x j = ⟨#[]⟩ ∧ lnN (bs (x ++ b)) = j + lnN (bs b) ∧ strL j (lnT x) ++ strL (lnN (bs b)) (lnT b) = strL (j + lnN (bs b)) (lnT (x ++ b)) := by
  rw [size_bs] at h10
  obtain ⟨L, hL1, hL2, hL3⟩ := seam_lines (b := bs b) (bs_ne hx) h10
  rw [← bs_append] at hL2
  have hN1 : lnN (bs x) = L.length + 1 := by unfold lnN; rw [hL1]; simp
  have hN2 : lnN (bs (x ++ b)) = L.length + lnN (bs b) := by unfold lnN; rw [hL2]; simp
  refine ⟨L.length, hN1, hL3, ?_, hN2, ?_⟩
  · apply bs_inj_l
    have : lnX (bs x) L.length = ((bs x).length, (bs x).length, 0) := by
      unfold lnX
      rw [hL1, List.getElem?_append_right (Nat.le_refl _), Nat.sub_self]
      rfl
    rw [lnT_ext, this, bs_extract]
    simp [bs]
  · unfold strL
    rw [List.range_add, List.map_append, List.map_map]
    congr 1
    · apply List.map_congr_left
      intro k hk
      rw [List.mem_range] at hk
      have e1 : lnX (bs x) k = lnX (bs (x ++ b)) k := by
        unfold lnX
        rw [hL1, hL2, List.getElem?_append_left hk, List.getElem?_append_left hk]
      have hfit := lnX_fits (bs x) k
      congr 1
      apply bs_inj_l
      rw [lnT_ext, lnT_ext, ← e1, bs_extract, bs_extract, bs_append, List.drop_append_of_le_length (by omega), List.take_append_of_le_length (by rw [List.length_drop]; omega)]
    · apply List.map_congr_left
      intro k hk
      rw [List.mem_range] at hk
      have e1 : lnX (bs (x ++ b)) (L.length + k) = shL (bs x).length (lnX (bs b) k) := by
        unfold lnX
        rw [hL2, List.getElem?_append_right (by omega), Nat.add_sub_cancel_left, List.getElem?_map]
        have : k < (linesL (bs b)).length := hk
        rw [List.getElem?_eq_getElem this]
        rfl
      show Value.string (lnT b k) = Value.string (lnT (x ++ b) (L.length + k))
      congr 1
      apply bs_inj_l
      rw [lnT_ext, lnT_ext, e1, bs_extract, bs_extract, bs_append]
      unfold shL
      simp only
      rw [List.drop_length_add_append]
      congr 1
      omega

theorem own_fst {w : World} {base : Nat} {e : TypeId} {v : Value} {n : Nat} {xs : List Value} (h : w.ownsRow base e 1 v n xs) (hn : 0 < n) : ∃ g cap, v = .slice (some ⟨g, 0, none⟩) n cap := by
  obtain ⟨n', rfl⟩ : ∃ n', n = n' + 1 := ⟨n - 1, by omega⟩
  exact ownsRow_succ h

set_option maxRecDepth 100000 in
set_option maxHeartbeats 8000000 in
theorem linesSeam_any (a b : ByteArray) (hs : a.size + b.size ≤ 1048576) (w : World) (hT : Tabs w) :
    Calls Tryd.prog 9 #[.string a, .string b] w fun e w' => e = .returned (.bool true) ∧ Below w.heap.size w w' := by
  have HT := Lib.hid hT
  have HW := Lib.hid works_any
  obtain ⟨i0, hi, hz0, hz1, hz2⟩ := info_parts info_str
  clear hT
  obtain ⟨x, hx⟩ : ∃ x, a ++ (⟨#[10]⟩ : ByteArray) = x := ⟨_, rfl⟩
  have hxs : x.size = a.size + 1 := by rw [← hx, ByteArray.size_append]; rfl
  have h10 : by' (bs x) (x.size - 1) = 10 := by
    rw [hxs, ← hx, bs_append, Nat.add_sub_cancel, size_bs]
    exact by_append_right (bs a) (bs ⟨#[10]⟩) 0
  have hsum : (x ++ b).size = x.size + b.size := ByteArray.size_append
  obtain ⟨j, hj1, hj2, hjE, hN3, hL⟩ := seam_texts x b (by omega) h10
  have S1 := Lib.hid (fun w hT => split_row x (by omega) w hT)
  have S2 := Lib.hid (fun w hT => split_row b (by omega) w hT)
  have S3 := Lib.hid (fun w hT => split_row (x ++ b) (by omega) w hT)
  have hN1 := lnN_le (bs x)
  have hN2 := lnN_le (bs b)
  have hP2 := lnN_pos (bs b)
  rw [← size_bs] at hN1 hN2
  rw [hj1] at S1 hN1
  rw [hN3] at S3
  obtain ⟨n, hn⟩ : ∃ n, lnN (bs b) = n := ⟨_, rfl⟩
  rw [hn] at S2 S3 hN2 hP2 hL
  have HL := Lib.hid hL
  have HJE := Lib.hid hjE
  clear hn hL hjE hj1 hN3 h10
  have hn1 : n ≤ 1048577 := by omega
  have hj3 : j ≤ 1048577 := by omega
  have hxb : x.size + b.size ≤ 1048577 := by omega
  have hab : a.size ≤ 1048576 := by omega
  have hxb1 : x.size ≤ 1048577 := by omega
  clear hsum hxs hN1 hN2 hs
  obtain ⟨q, hq⟩ : ∃ q, j + 1 = q := ⟨_, rfl⟩
  rw [hq] at S1
  have hqi : (q : Int) - 1 = (j : Int) := by omega
  have hq2 : decide ((q : Int) < 2) = false := decide_eq_false (by omega)
  have hq2' : decide (q < 2) = false := decide_eq_false (by omega)
  have hn2 : decide ((n : Int) < 1) = false := decide_eq_false (by omega)
  have hn2' : decide (n < 1) = false := decide_eq_false (by omega)
  have hjq : j < q := by omega
  have hq0 : 0 < q := by omega
  have hj0 : (0 : Int) ≤ (j : Int) := by omega
  have hjqi : (j : Int) < (q : Int) := by omega
  have HQ := Lib.hid hq
  clear hq
  go_enter Tryd.func9, Tryd.ntmps9
  go_wp2_with (first
    | (go_at_call 25; (with_reducible refine (S1.out _ HT.out).mono ?_); rintro e w1 ⟨g1, rfl, htx1, -, hgl1, hb1⟩)
    | (go_at_call 25; (with_reducible refine (S2.out _ (HT.out.below hb1 (Nat.le_refl _))).mono ?_); rintro e w2 ⟨g2, rfl, htx2, -, hgl2, hb2⟩; have hb12 := nx hb1 hb2)
    | (go_at_call 25; (with_reducible refine (S3.out _ (HT.out.below hb12 (Nat.le_refl _))).mono ?_); rintro e w3 ⟨g3, rfl, htx3, -, hgl3, hb3⟩; have hb13 := nx hb12 hb3; have T1 : StrAt w3 g1 q (lnT x) := StrAt.below htx1 (nx hb2 hb3); have T2 : StrAt w3 g2 n (lnT b) := StrAt.below htx2 hb3; have T3 : StrAt w3 g3 (j + n) (lnT (x ++ b)) := htx3; have d1 := T1 j hjq; rw [HJE.out] at d1)
    | (at_builtin; refine wpList_append_own _ rfl _ _ 46 rfl w3.heap.size 9 i0 (.string ⟨#[]⟩) 1 16 Tryd.underlying46 hi hz0 hz1 hz2 rfl (by decide) (.slice none 0 0) 0 [] rfl (World.ownsRow_nil _ _ _ _) ⟨g1, 0, none⟩ j q (strL j (lnT x)) rfl (by rw [strL_len]; omega) (T1.src j (by omega)) (strL_one _ _) (by unfold maxLen; omega) (by omega) (Nat.le_refl _) ?_; intro v4 w4 hown4 hgrow4 _; rw [List.nil_append, Nat.zero_add] at hown4; have hb4 : Below w3.heap.size w3 w4 := (Below.refl _ _).grown hgrow4 (Nat.le_refl _) (fun q e => by cases e))
    | (at_builtin; refine wpList_append_own _ rfl _ _ 46 rfl w3.heap.size 9 i0 (.string ⟨#[]⟩) 1 16 Tryd.underlying46 hi hz0 hz1 hz2 rfl (by decide) v4 _ _ rfl hown4 ⟨g2, 0, none⟩ n n (strL n (lnT b)) rfl (by rw [strL_len]; omega) ((T2.below hb4).src n (Nat.le_refl _)) (strL_one _ _) (by unfold maxLen; omega) (by omega) hb4.size ?_; intro v5 w5 hown5 hgrow5 _; rw [HL.out] at hown5; have hb5 : Below w3.heap.size w3 w5 := hb4.grown hgrow5 hb4.size (fun q e => (hown4.lt q e).1); obtain ⟨g5, cap5, rfl⟩ := own_fst hown5 (by omega); have T5 := StrAt.owned hown5; have HEQ := Lib.hid (eqtexts_any g3 g5 (j + n) cap5 (j + n) (by omega) (lnT (x ++ b)) w5 (T3.below hb5) T5); have hb15 := nx hb13 hb5)
    | (go_at_call 26; (with_reducible refine HEQ.out.mono ?_); rintro e w6 ⟨rfl, hb6⟩; have hb16 := nx hb15 hb6)
    | (go_at_call 13; (with_reducible refine (HW.out _ (HT.out.below hb16 (Nat.le_refl _))).mono ?_); rintro e w7 ⟨rfl, hb7⟩))
  go_ret
  exact ⟨rfl, nx hb16 hb7⟩
end Go.Proofs.YtebmjmohhpkonaaDoor
