/-
  The walk of the law UtfCuts: cut at each place, a text is put together again.
-/
import Derived.Test.YtnfjohlbpbonhaaDoorSeam
import Derived.Test.YtnfjohlbpbonhaaDoorAwake
namespace Go.Proofs.YtnfjohlbpbonhaaDoor
open Go.RowKit

theorem lW_facts (l : Bs) : lW l ≤ l.length ∧ lW l ≤ 4 ∧ (lB l = false → lW l ≤ 1) ∧ (lW l = 0 → l.length = 0) := by
  unfold lW lB
  by_cases h : l = []
  · simp [h]
  · rw [if_neg h, if_neg h]
    have hl : tk l ≠ [] := by
      intro e
      have := (Cut.full l).2.2
      rw [e] at this
      rw [wsum_nil] at this
      exact h (List.length_eq_zero_iff.1 this.symm)
    have hm : lastC l ∈ tk l := by
      unfold lastC
      rw [List.getLast?_eq_some_getLast hl]
      exact List.getLast_mem hl
    have h1 := tk_wid l _ hm
    refine ⟨?_, h1.2, fun e => ?_, fun e => by omega⟩
    · have hs := (Cut.full l).2.2
      obtain ⟨a, b, e⟩ := List.append_of_mem hm
      rw [e] at hs
      unfold wsum at hs
      simp at hs
      omega
    · unfold rightR at e
      simp at e
      omega

theorem cuts_fact (l : Bs) (k : Nat) (hk : k ≤ l.length) :
    begB l (k : Int) = decide (closK (l.take k) (l.drop k) = 0) ∧
    (closK (l.take k) (l.drop k) = 0 → countN (l.take k) + countN (l.drop k) = countN l) ∧
    (closK (l.take k) (l.drop k) ≠ 0 → countN l + pendN (l.take k) + closK (l.take k) (l.drop k) = countN (l.take k) + countN (l.drop k) + 1) := by
  have e : l.take k ++ l.drop k = l := List.take_append_drop _ _
  have ht : (l.take k).length = k := by rw [List.length_take]; exact Nat.min_eq_left hk
  have hc := seam_count (l.take k) (l.drop k)
  have hb := seam_border (l.take k) (l.drop k)
  rw [e] at hc hb
  rw [ht] at hb
  refine ⟨?_, fun h => (hc.1 h).symm, fun h => hc.2 h⟩
  by_cases h : closK (l.take k) (l.drop k) = 0
  · rw [begB_t hk (hb.2 h)]; simp [h]
  · rw [begB_f hk (fun h2 => h (hb.1 h2))]; simp [h]

theorem closes_at (p b : ByteArray) (hp : p.size ≤ 140737488351232) (hb : b.size ≤ 140737488351232) (c : Nat) (h : closN (bs p) (bs b) = c) (w : World) (hT : Tabs w) :
    Calls Tryd.prog 28 #[.string p, .string b] w fun e w' => e = .returned (.int .i64 c) ∧ Below w.heap.size w w' := by
  have := closes_any p b hp hb w hT
  rwa [h] at this
theorem pending_at (s : ByteArray) (hs : s.size ≤ 140737488351232) (c : Nat) (h : pendN (bs s) = c) (w : World) (hT : Tabs w) :
    Calls Tryd.prog 24 #[.string s] w fun e w' => e = .returned (.int .i64 c) ∧ Below w.heap.size w w' := by
  have := pending_any s hs w hT
  rwa [h] at this
theorem count_at (s : ByteArray) (hs : s.size ≤ 140737488351232) (n : Nat) (h : countN (bs s) = n) (w : World) :
    Calls Tryd.prog 19 #[.string s] w fun r w' => r = .returned (.int .i64 n) ∧ Below w.heap.size w w' := by
  have := count_any s hs w
  rwa [h] at this
theorem begins_at (s : ByteArray) (hs : s.size ≤ 140737488351232) (c : Int) (b : Bool) (h : begB (bs s) c = b) (w : World) (hT : Tabs w) :
    Calls Tryd.prog 33 #[.string s, .int .i64 c] w fun r w' => r = .returned (.bool b) ∧ Below w.heap.size w w' := by
  have := begins_any s hs c w hT
  rwa [h] at this
theorem last_at (s : ByteArray) (hs : s.size ≤ 140737488351232) (r : Int) (n : Nat) (b : Bool) (h1 : lR (bs s) = r) (h2 : lW (bs s) = n) (h3 : lB (bs s) = b) (w : World) (hT : Tabs w) :
    Calls Tryd.prog 17 #[.string s] w fun e w' => e = .returned (.tuple #[.int .i32 r, .int .i64 n, .bool b]) ∧ Below w.heap.size w w' := by
  have := last_any s hs w hT
  rwa [h1, h2, h3] at this

/-- the tests of a round: what the walk asks of the numbers -/
structure CutRow (k n c W Ca Cb Cl : Nat) (B : Bool) : Prop where
  n3 : n ≤ 3
  nk : n ≤ k
  c3 : c ≤ 3
  wk : W ≤ k
  w4 : W ≤ 4
  w1 : B = false → W ≤ 1
  w0 : W = 0 → k = 0
  open' : c = 0 → Ca + Cb = Cl
  shut : c ≠ 0 → Cl + n + c = Ca + Cb + 1

theorem cut_row (l : Bs) (k : Nat) (hk : k ≤ l.length) :
    CutRow k (pendN (l.take k)) (closK (l.take k) (l.drop k)) (lW (l.take k)) (countN (l.take k)) (countN (l.drop k)) (countN l) (lB (l.take k)) := by
  have ht : (l.take k).length = k := by rw [List.length_take]; exact Nat.min_eq_left hk
  have h1 := pend_le (l.take k)
  have h2 := closN_bounds (pendP (l.take k)) (l.drop k)
  have h3 := lW_facts (l.take k)
  have h4 := cuts_fact l k hk
  rw [ht] at h1 h3
  exact ⟨h1.1, h1.2, h2.1, h3.1, h3.2.1, h3.2.2.1, h3.2.2.2, h4.2.1, h4.2.2⟩

set_option maxRecDepth 100000 in
set_option maxHeartbeats 8000000 in
theorem utfCuts_any (s : ByteArray) (hs : s.size ≤ 140737488351232) (w : World) (hT : Tabs w) :
    Calls Tryd.prog 9 #[.string s] w fun e w' => e = .returned (.bool true) ∧ Below w.heap.size w w' := by
  have HT := Lib.hid hT
  clear hT
  have hb := Below.refl w.heap.size w
  by_cases h3 : 300 < s.size
  · have hx : (s.extract 0 300).size ≤ 300 := by rw [size_bs, bs_take]; simp; omega
    have HX := Lib.hid hx
    clear hx
    go_enter Tryd.func9, Tryd.ntmps9
    go_wp2_with (first | (go_at_call 30; (with_reducible refine (awake_any _ (HT.out.below hb (Nat.le_refl _))).mono ?_); rintro e w' ⟨rfl, hb'⟩; have hb := nx hb hb'; clear hb'))
    have hx := HX.out
    clear HX
    rw [decide_eq_true (show (300 : Int) < (s.size : Int) by omega)]
    clear h3
    generalize s.extract 0 300 = t at hx ⊢
    go_loopw [3] (fun i wr => ∃ k : Nat, i = .int .i64 k ∧ k ≤ t.size + 1 ∧ Below w.heap.size w wr) (fun i _ => t.size + 1 - (intOf i).toNat)
    case atStart => exact ⟨0, rfl, by omega, hb⟩
    case round =>
      obtain ⟨k, rfl, hk, hb⟩ := hrel
      by_cases hks : k ≤ t.size
      · have hrow := cut_row (bs t) k (by rw [← size_bs]; exact hks)
        have hbg := (cuts_fact (bs t) k (by rw [← size_bs]; exact hks)).1
        obtain ⟨n, hn⟩ : ∃ n, pendN ((bs t).take k) = n := ⟨_, rfl⟩
        obtain ⟨c, hc⟩ : ∃ c, closK ((bs t).take k) ((bs t).drop k) = c := ⟨_, rfl⟩
        obtain ⟨W, hW⟩ : ∃ W, lW ((bs t).take k) = W := ⟨_, rfl⟩
        obtain ⟨B, hB⟩ : ∃ B, lB ((bs t).take k) = B := ⟨_, rfl⟩
        obtain ⟨r, hr⟩ : ∃ r, lR ((bs t).take k) = r := ⟨_, rfl⟩
        obtain ⟨Ca, hCa⟩ : ∃ n, countN ((bs t).take k) = n := ⟨_, rfl⟩
        obtain ⟨Cb, hCb⟩ : ∃ n, countN ((bs t).drop k) = n := ⟨_, rfl⟩
        obtain ⟨Cl, hCl⟩ : ∃ n, countN (bs t) = n := ⟨_, rfl⟩
        have hCam : Ca ≤ 300 := by rw [← hCa]; refine Nat.le_trans (countN_le _) ?_; rw [List.length_take, ← size_bs]; omega
        have hCbm : Cb ≤ 300 := by rw [← hCb]; refine Nat.le_trans (countN_le _) ?_; rw [List.length_drop, ← size_bs]; omega
        have hClm : Cl ≤ 300 := by rw [← hCl]; refine Nat.le_trans (countN_le _) ?_; rw [← size_bs]; omega
        rw [hn, hc, hW, hB, hCa, hCb, hCl] at hrow
        rw [hc] at hbg
        have hae : bs (t.extract 0 k) = (bs t).take k := bs_take t k
        have hbe : bs (t.extract k t.size) = (bs t).drop k := bs_drop t k
        have hasz : (t.extract 0 k).size = k := by rw [size_bs, hae, List.length_take, ← size_bs]; exact Nat.min_eq_left hks
        have hbsz : (t.extract k t.size).size ≤ 300 := by rw [size_bs, hbe, List.length_drop, ← size_bs]; omega
        obtain ⟨a, ha⟩ : ∃ a, t.extract 0 k = a := ⟨_, rfl⟩
        obtain ⟨b, hbx⟩ : ∃ b, t.extract k t.size = b := ⟨_, rfl⟩
        have HA := Lib.hid ha
        have HBX := Lib.hid hbx
        rw [ha] at hae hasz
        rw [hbx] at hbe hbsz
        have hpe : bs (a.extract (k - n) k) = pendP (bs a) := by
          unfold pendP tailOf
          have := bs_drop a (k - n)
          rw [hasz] at this
          rw [this, hae, hn, List.length_take, ← size_bs, Nat.min_eq_left hks]
        have hpsz : (a.extract (k - n) k).size ≤ 300 := by
          rw [size_bs, hpe, pendP_len, hae, hn]; have := hrow.n3; omega
        have HPE := Lib.hid (pending_at a (by omega) n (by rw [hae, hn]))
        have HCL := Lib.hid (closes_at (a.extract (k - n) k) b (by omega) (by omega) c (by rw [hpe, hbe, hae]; exact hc))
        have HBG := Lib.hid (begins_at t (by omega) (k : Int) (decide (c = 0)) hbg)
        have HLA := Lib.hid (last_at a (by omega) r W B (by rw [hae, hr]) (by rw [hae, hW]) (by rw [hae, hB]))
        have HCA := Lib.hid (count_at a (by omega) Ca (by rw [hae, hCa]))
        have HCB := Lib.hid (count_at b (by omega) Cb (by rw [hbe, hCb]))
        have HCC := Lib.hid (count_at t (by omega) Cl hCl)
        have HASZ := Lib.hid hasz
        clear hae hbe hpe hpsz hbsz ha hbx hbg hn hc hW hB hr hCa hCb hCl hasz
        obtain ⟨n3, nk, c3, wk, w4, w1, w0, hop, hsh⟩ := hrow
        go_wp2_with fail
        go_quiet (fail)
        rw [HA.out, HBX.out]
        obtain rfl := HASZ.out
        clear HA HBX HASZ
        go_wp2_with fail
        (with_reducible refine (HPE.out _ (HT.out.below (below_drewN hb _) (Nat.le_refl _))).mono ?_)
        rintro e w1 ⟨rfl, hb1⟩
        have hb := nx (below_drewN hb _) hb1
        clear hb1
        go_wp2_with fail
        (with_reducible refine (HCL.out _ (HT.out.below hb (Nat.le_refl _))).mono ?_)
        rintro e w2 ⟨rfl, hb1⟩
        have hb := nx hb hb1
        clear hb1
        go_wp2_with fail
        (with_reducible refine (HBG.out _ (HT.out.below hb (Nat.le_refl _))).mono ?_)
        rintro e w3 ⟨rfl, hb1⟩
        have hb := nx hb hb1
        clear hb1
        by_cases hc0 : c = 0
        · obtain rfl := hc0
          go_wp2_with fail
          (with_reducible refine (HLA.out _ (HT.out.below hb (Nat.le_refl _))).mono ?_)
          rintro e w4 ⟨rfl, hb1⟩
          have hb := nx hb hb1
          clear hb1
          have hsum : ((Ca : Int) + (Cb : Int) != (Cl : Int)) = false := by have := hop (by simp); simp; omega
          clear hop hsh
          by_cases hW0 : W = 0
          · have hz := w0 hW0
            obtain rfl := hW0
            have hz3 : ((a.size : Int) == 0) = true := beq_iff_eq.2 (by omega)
            cases B
            all_goals
              go_wp2_with (first | (go_at_call 19; (with_reducible refine (HCA.out _).mono ?_); rintro e w' ⟨rfl, hb'⟩; have hb := nx hb hb'; clear hb') | (go_at_call 19; (with_reducible refine (HCB.out _).mono ?_); rintro e w' ⟨rfl, hb'⟩; have hb := nx hb hb'; clear hb') | (go_at_call 19; (with_reducible refine (HCC.out _).mono ?_); rintro e w' ⟨rfl, hb'⟩; have hb := nx hb hb'; clear hb'))
              go_roundw
              case rel => exact ⟨1, by go_num, by omega, hb⟩
              case measure => simp [intOf, hz] <;> omega
          · have hz2 : ((W : Int) == 0) = false := beq_eq_false_iff_ne.2 (by omega)
            have hz3 : ((a.size : Int) == 0) = false := beq_eq_false_iff_ne.2 (by omega)
            cases B
            · have w1 := w1 (by simp)
              clear w0
              go_wp2_with (first | (go_at_call 19; (with_reducible refine (HCA.out _).mono ?_); rintro e w' ⟨rfl, hb'⟩; have hb := nx hb hb'; clear hb') | (go_at_call 19; (with_reducible refine (HCB.out _).mono ?_); rintro e w' ⟨rfl, hb'⟩; have hb := nx hb hb'; clear hb') | (go_at_call 19; (with_reducible refine (HCC.out _).mono ?_); rintro e w' ⟨rfl, hb'⟩; have hb := nx hb hb'; clear hb'))
              go_roundw
              case rel => exact ⟨a.size + 1, by go_num, by omega, hb⟩
              case measure => simp [intOf]; omega
            · clear w0 w1
              go_wp2_with (first | (go_at_call 19; (with_reducible refine (HCA.out _).mono ?_); rintro e w' ⟨rfl, hb'⟩; have hb := nx hb hb'; clear hb') | (go_at_call 19; (with_reducible refine (HCB.out _).mono ?_); rintro e w' ⟨rfl, hb'⟩; have hb := nx hb hb'; clear hb') | (go_at_call 19; (with_reducible refine (HCC.out _).mono ?_); rintro e w' ⟨rfl, hb'⟩; have hb := nx hb hb'; clear hb'))
              go_roundw
              case rel => exact ⟨a.size + 1, by go_num, by omega, hb⟩
              case measure => simp [intOf]; omega
        · have hz1 : ((c : Int) == 0) = false := beq_eq_false_iff_ne.2 (by omega)
          have hd : decide (c = 0) = false := decide_eq_false hc0
          have hn1 : (0 : Int) < (c : Int) := by omega
          go_wp2_with fail
          (with_reducible refine (HLA.out _ (HT.out.below hb (Nat.le_refl _))).mono ?_)
          rintro e w4 ⟨rfl, hb1⟩
          have hb := nx hb hb1
          clear hb1
          have hsum : ((Ca : Int) + (Cb : Int) - (n : Int) - (c : Int) + 1 != (Cl : Int)) = false := by have := hsh hc0; simp; omega
          clear hop hsh
          by_cases hW0 : W = 0
          · have hz := w0 hW0
            obtain rfl := hW0
            have hz3 : ((a.size : Int) == 0) = true := beq_iff_eq.2 (by omega)
            cases B
            all_goals
              go_wp2_with (first | (go_at_call 19; (with_reducible refine (HCA.out _).mono ?_); rintro e w' ⟨rfl, hb'⟩; have hb := nx hb hb'; clear hb') | (go_at_call 19; (with_reducible refine (HCB.out _).mono ?_); rintro e w' ⟨rfl, hb'⟩; have hb := nx hb hb'; clear hb') | (go_at_call 19; (with_reducible refine (HCC.out _).mono ?_); rintro e w' ⟨rfl, hb'⟩; have hb := nx hb hb'; clear hb'))
              go_roundw
              case rel => exact ⟨1, by go_num, by omega, hb⟩
              case measure => simp [intOf, hz] <;> omega
          · have hz2 : ((W : Int) == 0) = false := beq_eq_false_iff_ne.2 (by omega)
            have hz3 : ((a.size : Int) == 0) = false := beq_eq_false_iff_ne.2 (by omega)
            cases B
            · have w1 := w1 (by simp)
              clear w0
              go_wp2_with (first | (go_at_call 19; (with_reducible refine (HCA.out _).mono ?_); rintro e w' ⟨rfl, hb'⟩; have hb := nx hb hb'; clear hb') | (go_at_call 19; (with_reducible refine (HCB.out _).mono ?_); rintro e w' ⟨rfl, hb'⟩; have hb := nx hb hb'; clear hb') | (go_at_call 19; (with_reducible refine (HCC.out _).mono ?_); rintro e w' ⟨rfl, hb'⟩; have hb := nx hb hb'; clear hb'))
              go_roundw
              case rel => exact ⟨a.size + 1, by go_num, by omega, hb⟩
              case measure => simp [intOf]; omega
            · clear w0 w1
              go_wp2_with (first | (go_at_call 19; (with_reducible refine (HCA.out _).mono ?_); rintro e w' ⟨rfl, hb'⟩; have hb := nx hb hb'; clear hb') | (go_at_call 19; (with_reducible refine (HCB.out _).mono ?_); rintro e w' ⟨rfl, hb'⟩; have hb := nx hb hb'; clear hb') | (go_at_call 19; (with_reducible refine (HCC.out _).mono ?_); rintro e w' ⟨rfl, hb'⟩; have hb := nx hb hb'; clear hb'))
              go_roundw
              case rel => exact ⟨a.size + 1, by go_num, by omega, hb⟩
              case measure => simp [intOf]; omega
      · go_wp2_with fail
        go_ret
        exact ⟨rfl, hb⟩
  · obtain ⟨t, rfl⟩ : ∃ t, t = s := ⟨_, rfl⟩
    have hx : t.size ≤ 300 := by omega
    go_enter Tryd.func9, Tryd.ntmps9
    go_wp2_with (first | (go_at_call 30; (with_reducible refine (awake_any _ (HT.out.below hb (Nat.le_refl _))).mono ?_); rintro e w' ⟨rfl, hb'⟩; have hb := nx hb hb'; clear hb'))
    rw [decide_eq_false (show ¬ (300 : Int) < (t.size : Int) by omega)]
    clear h3
    go_loopw [3] (fun i wr => ∃ k : Nat, i = .int .i64 k ∧ k ≤ t.size + 1 ∧ Below w.heap.size w wr) (fun i _ => t.size + 1 - (intOf i).toNat)
    case atStart => exact ⟨0, rfl, by omega, hb⟩
    case round =>
      obtain ⟨k, rfl, hk, hb⟩ := hrel
      by_cases hks : k ≤ t.size
      · have hrow := cut_row (bs t) k (by rw [← size_bs]; exact hks)
        have hbg := (cuts_fact (bs t) k (by rw [← size_bs]; exact hks)).1
        obtain ⟨n, hn⟩ : ∃ n, pendN ((bs t).take k) = n := ⟨_, rfl⟩
        obtain ⟨c, hc⟩ : ∃ c, closK ((bs t).take k) ((bs t).drop k) = c := ⟨_, rfl⟩
        obtain ⟨W, hW⟩ : ∃ W, lW ((bs t).take k) = W := ⟨_, rfl⟩
        obtain ⟨B, hB⟩ : ∃ B, lB ((bs t).take k) = B := ⟨_, rfl⟩
        obtain ⟨r, hr⟩ : ∃ r, lR ((bs t).take k) = r := ⟨_, rfl⟩
        obtain ⟨Ca, hCa⟩ : ∃ n, countN ((bs t).take k) = n := ⟨_, rfl⟩
        obtain ⟨Cb, hCb⟩ : ∃ n, countN ((bs t).drop k) = n := ⟨_, rfl⟩
        obtain ⟨Cl, hCl⟩ : ∃ n, countN (bs t) = n := ⟨_, rfl⟩
        have hCam : Ca ≤ 300 := by rw [← hCa]; refine Nat.le_trans (countN_le _) ?_; rw [List.length_take, ← size_bs]; omega
        have hCbm : Cb ≤ 300 := by rw [← hCb]; refine Nat.le_trans (countN_le _) ?_; rw [List.length_drop, ← size_bs]; omega
        have hClm : Cl ≤ 300 := by rw [← hCl]; refine Nat.le_trans (countN_le _) ?_; rw [← size_bs]; omega
        rw [hn, hc, hW, hB, hCa, hCb, hCl] at hrow
        rw [hc] at hbg
        have hae : bs (t.extract 0 k) = (bs t).take k := bs_take t k
        have hbe : bs (t.extract k t.size) = (bs t).drop k := bs_drop t k
        have hasz : (t.extract 0 k).size = k := by rw [size_bs, hae, List.length_take, ← size_bs]; exact Nat.min_eq_left hks
        have hbsz : (t.extract k t.size).size ≤ 300 := by rw [size_bs, hbe, List.length_drop, ← size_bs]; omega
        obtain ⟨a, ha⟩ : ∃ a, t.extract 0 k = a := ⟨_, rfl⟩
        obtain ⟨b, hbx⟩ : ∃ b, t.extract k t.size = b := ⟨_, rfl⟩
        have HA := Lib.hid ha
        have HBX := Lib.hid hbx
        rw [ha] at hae hasz
        rw [hbx] at hbe hbsz
        have hpe : bs (a.extract (k - n) k) = pendP (bs a) := by
          unfold pendP tailOf
          have := bs_drop a (k - n)
          rw [hasz] at this
          rw [this, hae, hn, List.length_take, ← size_bs, Nat.min_eq_left hks]
        have hpsz : (a.extract (k - n) k).size ≤ 300 := by
          rw [size_bs, hpe, pendP_len, hae, hn]; have := hrow.n3; omega
        have HPE := Lib.hid (pending_at a (by omega) n (by rw [hae, hn]))
        have HCL := Lib.hid (closes_at (a.extract (k - n) k) b (by omega) (by omega) c (by rw [hpe, hbe, hae]; exact hc))
        have HBG := Lib.hid (begins_at t (by omega) (k : Int) (decide (c = 0)) hbg)
        have HLA := Lib.hid (last_at a (by omega) r W B (by rw [hae, hr]) (by rw [hae, hW]) (by rw [hae, hB]))
        have HCA := Lib.hid (count_at a (by omega) Ca (by rw [hae, hCa]))
        have HCB := Lib.hid (count_at b (by omega) Cb (by rw [hbe, hCb]))
        have HCC := Lib.hid (count_at t (by omega) Cl hCl)
        have HASZ := Lib.hid hasz
        clear hae hbe hpe hpsz hbsz ha hbx hbg hn hc hW hB hr hCa hCb hCl hasz
        obtain ⟨n3, nk, c3, wk, w4, w1, w0, hop, hsh⟩ := hrow
        go_wp2_with fail
        go_quiet (fail)
        rw [HA.out, HBX.out]
        obtain rfl := HASZ.out
        clear HA HBX HASZ
        go_wp2_with fail
        (with_reducible refine (HPE.out _ (HT.out.below (below_drewN hb _) (Nat.le_refl _))).mono ?_)
        rintro e w1 ⟨rfl, hb1⟩
        have hb := nx (below_drewN hb _) hb1
        clear hb1
        go_wp2_with fail
        (with_reducible refine (HCL.out _ (HT.out.below hb (Nat.le_refl _))).mono ?_)
        rintro e w2 ⟨rfl, hb1⟩
        have hb := nx hb hb1
        clear hb1
        go_wp2_with fail
        (with_reducible refine (HBG.out _ (HT.out.below hb (Nat.le_refl _))).mono ?_)
        rintro e w3 ⟨rfl, hb1⟩
        have hb := nx hb hb1
        clear hb1
        by_cases hc0 : c = 0
        · obtain rfl := hc0
          go_wp2_with fail
          (with_reducible refine (HLA.out _ (HT.out.below hb (Nat.le_refl _))).mono ?_)
          rintro e w4 ⟨rfl, hb1⟩
          have hb := nx hb hb1
          clear hb1
          have hsum : ((Ca : Int) + (Cb : Int) != (Cl : Int)) = false := by have := hop (by simp); simp; omega
          clear hop hsh
          by_cases hW0 : W = 0
          · have hz := w0 hW0
            obtain rfl := hW0
            have hz3 : ((a.size : Int) == 0) = true := beq_iff_eq.2 (by omega)
            cases B
            all_goals
              go_wp2_with (first | (go_at_call 19; (with_reducible refine (HCA.out _).mono ?_); rintro e w' ⟨rfl, hb'⟩; have hb := nx hb hb'; clear hb') | (go_at_call 19; (with_reducible refine (HCB.out _).mono ?_); rintro e w' ⟨rfl, hb'⟩; have hb := nx hb hb'; clear hb') | (go_at_call 19; (with_reducible refine (HCC.out _).mono ?_); rintro e w' ⟨rfl, hb'⟩; have hb := nx hb hb'; clear hb'))
              go_roundw
              case rel => exact ⟨1, by go_num, by omega, hb⟩
              case measure => simp [intOf, hz] <;> omega
          · have hz2 : ((W : Int) == 0) = false := beq_eq_false_iff_ne.2 (by omega)
            have hz3 : ((a.size : Int) == 0) = false := beq_eq_false_iff_ne.2 (by omega)
            cases B
            · have w1 := w1 (by simp)
              clear w0
              go_wp2_with (first | (go_at_call 19; (with_reducible refine (HCA.out _).mono ?_); rintro e w' ⟨rfl, hb'⟩; have hb := nx hb hb'; clear hb') | (go_at_call 19; (with_reducible refine (HCB.out _).mono ?_); rintro e w' ⟨rfl, hb'⟩; have hb := nx hb hb'; clear hb') | (go_at_call 19; (with_reducible refine (HCC.out _).mono ?_); rintro e w' ⟨rfl, hb'⟩; have hb := nx hb hb'; clear hb'))
              go_roundw
              case rel => exact ⟨a.size + 1, by go_num, by omega, hb⟩
              case measure => simp [intOf]; omega
            · clear w0 w1
              go_wp2_with (first | (go_at_call 19; (with_reducible refine (HCA.out _).mono ?_); rintro e w' ⟨rfl, hb'⟩; have hb := nx hb hb'; clear hb') | (go_at_call 19; (with_reducible refine (HCB.out _).mono ?_); rintro e w' ⟨rfl, hb'⟩; have hb := nx hb hb'; clear hb') | (go_at_call 19; (with_reducible refine (HCC.out _).mono ?_); rintro e w' ⟨rfl, hb'⟩; have hb := nx hb hb'; clear hb'))
              go_roundw
              case rel => exact ⟨a.size + 1, by go_num, by omega, hb⟩
              case measure => simp [intOf]; omega
        · have hz1 : ((c : Int) == 0) = false := beq_eq_false_iff_ne.2 (by omega)
          have hd : decide (c = 0) = false := decide_eq_false hc0
          have hn1 : (0 : Int) < (c : Int) := by omega
          go_wp2_with fail
          (with_reducible refine (HLA.out _ (HT.out.below hb (Nat.le_refl _))).mono ?_)
          rintro e w4 ⟨rfl, hb1⟩
          have hb := nx hb hb1
          clear hb1
          have hsum : ((Ca : Int) + (Cb : Int) - (n : Int) - (c : Int) + 1 != (Cl : Int)) = false := by have := hsh hc0; simp; omega
          clear hop hsh
          by_cases hW0 : W = 0
          · have hz := w0 hW0
            obtain rfl := hW0
            have hz3 : ((a.size : Int) == 0) = true := beq_iff_eq.2 (by omega)
            cases B
            all_goals
              go_wp2_with (first | (go_at_call 19; (with_reducible refine (HCA.out _).mono ?_); rintro e w' ⟨rfl, hb'⟩; have hb := nx hb hb'; clear hb') | (go_at_call 19; (with_reducible refine (HCB.out _).mono ?_); rintro e w' ⟨rfl, hb'⟩; have hb := nx hb hb'; clear hb') | (go_at_call 19; (with_reducible refine (HCC.out _).mono ?_); rintro e w' ⟨rfl, hb'⟩; have hb := nx hb hb'; clear hb'))
              go_roundw
              case rel => exact ⟨1, by go_num, by omega, hb⟩
              case measure => simp [intOf, hz] <;> omega
          · have hz2 : ((W : Int) == 0) = false := beq_eq_false_iff_ne.2 (by omega)
            have hz3 : ((a.size : Int) == 0) = false := beq_eq_false_iff_ne.2 (by omega)
            cases B
            · have w1 := w1 (by simp)
              clear w0
              go_wp2_with (first | (go_at_call 19; (with_reducible refine (HCA.out _).mono ?_); rintro e w' ⟨rfl, hb'⟩; have hb := nx hb hb'; clear hb') | (go_at_call 19; (with_reducible refine (HCB.out _).mono ?_); rintro e w' ⟨rfl, hb'⟩; have hb := nx hb hb'; clear hb') | (go_at_call 19; (with_reducible refine (HCC.out _).mono ?_); rintro e w' ⟨rfl, hb'⟩; have hb := nx hb hb'; clear hb'))
              go_roundw
              case rel => exact ⟨a.size + 1, by go_num, by omega, hb⟩
              case measure => simp [intOf]; omega
            · clear w0 w1
              go_wp2_with (first | (go_at_call 19; (with_reducible refine (HCA.out _).mono ?_); rintro e w' ⟨rfl, hb'⟩; have hb := nx hb hb'; clear hb') | (go_at_call 19; (with_reducible refine (HCB.out _).mono ?_); rintro e w' ⟨rfl, hb'⟩; have hb := nx hb hb'; clear hb') | (go_at_call 19; (with_reducible refine (HCC.out _).mono ?_); rintro e w' ⟨rfl, hb'⟩; have hb := nx hb hb'; clear hb'))
              go_roundw
              case rel => exact ⟨a.size + 1, by go_num, by omega, hb⟩
              case measure => simp [intOf]; omega
      · go_wp2_with fail
        go_ret
        exact ⟨rfl, hb⟩
end Go.Proofs.YtnfjohlbpbonhaaDoor
