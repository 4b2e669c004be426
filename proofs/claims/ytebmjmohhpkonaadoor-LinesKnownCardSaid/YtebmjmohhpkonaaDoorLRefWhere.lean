/-
  The document's first, chars and Where: their contracts.
-/
import Derived.Test.YtebmjmohhpkonaaDoorLRefAll
import Derived.Test.YtebmjmohhpkonaaDoorLBackLaw
import Derived.Test.YtebmjmohhpkonaaDoorBox
import Derived.Deep.RegionHeldLaw
import Derived.BigQuiet
namespace Go.Proofs.YtebmjmohhpkonaaDoor
open Go.RowKit

/-- the character that begins last at or ahead of a place, among the first k -/
def LastLe (l : Bs) (c k f : Nat) : Prop := (k = 0 ∧ f = 0) ∨ ∃ m, m < k ∧ f = atN l m ∧ atN l m ≤ c ∧ ∀ j, m < j → j < k → c < atN l j
set_option maxHeartbeats 2000000 in
theorem reffirstp_any (s : ByteArray) (c : Nat) (hc : c ≤ s.size) (w : World) :
    Calls Tryd.prog 31 #[.string s, .int .i64 (c : Nat)] w fun e w' => e = .returned (.int .i64 (atN (bs s) (ofT (tk (bs s)) c) : Nat)) ∧ Below w.heap.size w w' := by
  obtain ⟨l, hl⟩ : ∃ l, bs s = l := ⟨_, rfl⟩
  have hlen : l.length = s.size := by rw [← hl, size_bs]
  rw [hl]
  have HL := Lib.hid hl
  clear hl
  by_cases hce : c = s.size
  · have hc1 : (((c : Nat) : Int) == (s.size : Int)) = true := beq_iff_eq.2 (by omega)
    have HV := Lib.hid (show c = atN l (ofT (tk l) c) by rw [hce, ← hlen, ofT_end, atN_full])
    clear hlen hce
    go_enter Tryd.func31, Tryd.ntmps31
    go_wp2_with fail
    go_ret
    exact ⟨ret_int (congrArg Nat.cast HV.out), Below.refl _ _⟩
  · have hc1 : (((c : Nat) : Int) == (s.size : Int)) = false := beq_eq_false_iff_ne.2 (by omega)
    have HLEN := Lib.hid hlen
    clear hlen
    go_enter Tryd.func31, Tryd.ntmps31
    go_wp2_with fail
    go_loopw [5] (fun f wr => ∃ done p f', Cut l done p ∧ wr.heap[w.heap.size]? = some (.stringIter s p) ∧ f = .int .i64 (f' : Nat) ∧ Hid (LastLe l c done.length f') ∧ Below w.heap.size w wr) (fun _ wr => s.size - wr.iterPos w.heap.size)
    case atStart => exact ⟨[], 0, 0, Cut.zero _, World.iter_heap _ _ _, rfl, Lib.hid (.inl ⟨rfl, rfl⟩), al (Below.refl _ _) _⟩
    case round =>
      obtain ⟨done, p, f', hc, hit, rfl, hll, hb⟩ := hrel
      by_cases hp : p < s.size
      · have hp' : p < l.length := by rw [HLEN.out]; exact hp
        have hnx := fun ty => Lib.run_next_any_at (P := Tryd.prog) wr w.heap.size s p ty hit hp
        rw [decode_bs, HL.out] at hnx
        have hcs := hc.step hp'
        have hw := (wid_bounds (l.drop p)).1
        have hat := hc.at'
        have hlc := hc.lt_count hp'
        obtain ⟨d, hd⟩ : ∃ d, d = Lib.decodeL (l.drop p) := ⟨_, rfl⟩
        rw [← hd] at hnx hcs hw
        obtain ⟨r, n'⟩ := d
        simp only at hnx hw hcs
        have hbi : Below w.heap.size wr (wr.iterAt w.heap.size s (p + n')) := Lib.below_iterAt (Below.refl _ _) (Nat.le_refl _) s (p + n')
        have HIT := Lib.hid (Lib.iterAt_heap wr w.heap.size s p (p + n') hit)
        have HIP := Lib.hid (show wr.iterPos w.heap.size = p from iterPos_of hit)
        have hbV : Below w.heap.size w (wr.iterAt w.heap.size s (p + n')) := hb.trans hbi
        obtain ⟨V, hV⟩ : ∃ V, wr.iterAt w.heap.size s (p + n') = V := ⟨_, rfl⟩
        rw [hV] at hnx HIT hbV
        have HCS := Lib.hid hcs
        have HAT := Lib.hid hat
        by_cases hle : p ≤ c
        · have hd1 : decide (p ≤ c) = true := decide_eq_true hle
          have HLL := Lib.hid (show LastLe l c (done ++ [(r, n')]).length p from .inr ⟨done.length, by simp, hat.symm, by omega, fun j h1 h2 => by rw [List.length_append, List.length_singleton] at h2; omega⟩)
          clear hd hc hit hcs hV hbi hb hp' hat hlc hle hll
          go_wp2_with fail
          exact ⟨⟨_, _, p, HCS.out, HIT.out, rfl, HLL, hbV⟩, by rw [iterPos_of HIT.out, HIP.out]; omega⟩
        · have hd1 : decide (p ≤ c) = false := decide_eq_false hle
          have HLL := Lib.hid (show LastLe l c (done ++ [(r, n')]).length f' from by
            rw [List.length_append, List.length_singleton]
            rcases hll.out with ⟨h1, _⟩ | ⟨m, h1, h2, h3, h4⟩
            · exfalso
              rw [h1, atN_zero] at hat
              omega
            · refine .inr ⟨m, by omega, h2, h3, fun j h5 h6 => ?_⟩
              by_cases e : j = done.length
              · rw [e, hat]; omega
              · exact h4 j h5 (by omega))
          clear hd hc hit hcs hV hbi hb hp' hat hlc hle hll
          go_wp2_with fail
          exact ⟨⟨_, _, f', HCS.out, HIT.out, rfl, HLL, hbV⟩, by rw [iterPos_of HIT.out, HIP.out]; omega⟩
      · have hnx := fun ty => Lib.run_next_end_at (P := Tryd.prog) wr w.heap.size s p ty hit hp
        have hE := (hc.end' (by rw [HLEN.out]; omega)).1
        have HV := Lib.hid (show f' = atN l (ofT (tk l) c) by
          rcases hll.out with ⟨h1, _⟩ | ⟨m, h1, h2, h3, h4⟩
          · have := atN_full l
            rw [show countN l = 0 by rw [hE] at h1; exact h1, atN_zero, HLEN.out] at this
            omega
          · rw [h2]
            congr 1
            rw [hE] at h1 h4
            refine (of_is h1 h3 ?_).symm
            rcases Nat.lt_or_ge (m + 1) (countN l) with h | h
            · exact h4 (m + 1) (by omega) h
            · have : m + 1 = countN l := by unfold countN at *; omega
              rw [this, atN_full, HLEN.out]
              omega)
        clear hE hc hit hll
        go_wp2_with fail
        go_ret
        exact ⟨ret_int (congrArg Nat.cast HV.out), hb⟩

set_option maxHeartbeats 2000000 in
theorem refchars_any (s : ByteArray) (hs : s.size ≤ 1048576) (q : Nat) (hq : q ≤ countN (bs s)) (to : Int) (hto : to = (atN (bs s) q : Nat)) (w : World) :
    Calls Tryd.prog 32 #[.string s, .int .i64 to] w fun e w' => e = .returned (.int .i64 (q : Nat)) ∧ Below w.heap.size w w' := by
  have hcl := bs_len_le s
  obtain ⟨l, hl⟩ : ∃ l, bs s = l := ⟨_, rfl⟩
  have hlen : l.length = s.size := by rw [← hl, size_bs]
  rw [hl] at hq hto hcl
  have HL := Lib.hid hl
  have HLEN := Lib.hid hlen
  have HTO := Lib.hid hto
  clear hl hlen hto
  go_enter Tryd.func32, Tryd.ntmps32
  go_wp2_with fail
  go_loopw [5] (fun f wr => ∃ done p, Cut l done p ∧ wr.heap[w.heap.size]? = some (.stringIter s p) ∧ f = .int .i64 ((min done.length q : Nat)) ∧ Below w.heap.size w wr) (fun _ wr => s.size - wr.iterPos w.heap.size)
  case atStart => exact ⟨[], 0, Cut.zero _, World.iter_heap _ _ _, by simp, al (Below.refl _ _) _⟩
  case round =>
    obtain ⟨done, p, hc, hit, rfl, hb⟩ := hrel
    by_cases hp : p < s.size
    · have hp' : p < l.length := by rw [HLEN.out]; exact hp
      have hnx := fun ty => Lib.run_next_any_at (P := Tryd.prog) wr w.heap.size s p ty hit hp
      rw [decode_bs, HL.out] at hnx
      have hcs := hc.step hp'
      have hw := (wid_bounds (l.drop p)).1
      have hat := hc.at'
      have hlc := hc.lt_count hp'
      obtain ⟨d, hd⟩ : ∃ d, d = Lib.decodeL (l.drop p) := ⟨_, rfl⟩
      rw [← hd] at hnx hcs hw
      obtain ⟨r, n'⟩ := d
      simp only at hnx hw hcs
      have hbi : Below w.heap.size wr (wr.iterAt w.heap.size s (p + n')) := Lib.below_iterAt (Below.refl _ _) (Nat.le_refl _) s (p + n')
      have HIT := Lib.hid (Lib.iterAt_heap wr w.heap.size s p (p + n') hit)
      have HIP := Lib.hid (show wr.iterPos w.heap.size = p from iterPos_of hit)
      have hbV : Below w.heap.size w (wr.iterAt w.heap.size s (p + n')) := hb.trans hbi
      obtain ⟨V, hV⟩ : ∃ V, wr.iterAt w.heap.size s (p + n') = V := ⟨_, rfl⟩
      rw [hV] at hnx HIT hbV
      have HCS := Lib.hid hcs
      have HAT := Lib.hid hat
      by_cases hle : done.length < q
      · have hd1 : decide ((p : Int) < to) = true := decide_eq_true (by rw [HTO.out, ← hat]; have := atL_lt l hle hq; omega)
        have HM := Lib.hid (show min (done ++ [(r, n')]).length q = min done.length q + 1 by rw [List.length_append, List.length_singleton]; omega)
        obtain ⟨m, hm⟩ : ∃ m, min done.length q = m := ⟨_, rfl⟩
        rw [hm] at HM ⊢
        have hm2 : m ≤ 1048576 := by omega
        clear hd hc hit hcs hV hbi hb hp' hat hlc hle hm
        go_wp2_with fail
        exact ⟨⟨_, _, HCS.out, HIT.out, by rw [HM.out]; go_num, hbV⟩, by rw [iterPos_of HIT.out, HIP.out]; omega⟩
      · have hd1 : decide ((p : Int) < to) = false := decide_eq_false (by rw [HTO.out, ← hat]; have := atL_le l (show q ≤ done.length by omega) (by omega); omega)
        have HM := Lib.hid (show min (done ++ [(r, n')]).length q = min done.length q by rw [List.length_append, List.length_singleton]; omega)
        obtain ⟨m, hm⟩ : ∃ m, min done.length q = m := ⟨_, rfl⟩
        rw [hm] at HM ⊢
        clear hd hc hit hcs hV hbi hb hp' hat hlc hle hm
        go_wp2_with fail
        exact ⟨⟨_, _, HCS.out, HIT.out, by rw [HM.out], hbV⟩, by rw [iterPos_of HIT.out, HIP.out]; omega⟩
    · have hnx := fun ty => Lib.run_next_end_at (P := Tryd.prog) wr w.heap.size s p ty hit hp
      have hE := (hc.end' (by rw [HLEN.out]; omega)).1
      have HV := Lib.hid (show min done.length q = q by rw [hE]; unfold countN at hq; omega)
      obtain ⟨m, hm⟩ : ∃ m, min done.length q = m := ⟨_, rfl⟩
      rw [hm] at HV ⊢
      clear hE hc hit hm
      go_wp2_with fail
      go_ret
      exact ⟨ret_int (congrArg Nat.cast HV.out), hb⟩

theorem gS_keep {w W W' : World} {r g i : Nat} {v : Value} (H : W.cell? ⟨g, i, none⟩ = some v ∧ w.grownBy W (some r)) (hb : Below W.heap.size W W') : W'.cell? ⟨g, i, none⟩ = some v ∧ w.grownBy W' (some r) :=
  ⟨cellKeep H.1 hb, hb.os.trans H.2.os, hb.tape.trans H.2.tape, hb.output.trans H.2.output, Nat.le_trans H.2.size hb.size, fun k hk hne => (hb.block k (Nat.lt_of_lt_of_le hk H.2.size)).trans (H.2.block k hk hne)⟩
theorem gS_set {w W : World} {r g i : Nat} {v : Value} (H : W.cell? ⟨g, i, none⟩ = some v ∧ w.grownBy W (some r)) (h1 : g ≠ r) (j : Nat) (u : Value) :
    (W.setCell ⟨r, j, none⟩ u).cell? ⟨g, i, none⟩ = some v ∧ w.grownBy (W.setCell ⟨r, j, none⟩ u) (some r) := by
  have hg := grownBy_set W r j u
  have l1 := World.block_lt_of_cell? W _ H.1
  exact ⟨(World.cell?_of_block (a := ⟨g, i, none⟩) (hg.block g l1 (fun e => h1 (by injection e)))).trans H.1,
    hg.os.trans H.2.os, hg.tape.trans H.2.tape, hg.output.trans H.2.output, Nat.le_trans H.2.size hg.size, fun k hk hne => (hg.block k (Nat.lt_of_lt_of_le hk H.2.size) hne).trans (H.2.block k hk hne)⟩

/-- the document's search for a place's line, by where its character begins -/
theorem lnA_le_iff {l : Bs} {c k : Nat} (hk : k < lnN l) (hc : c ≤ l.length) : lnA l k ≤ atN l (ofT (tk l) c) ↔ lnA l k ≤ c := by
  have hle : atN l (ofT (tk l) c) ≤ c := by
    rcases Nat.lt_or_ge c l.length with h | h
    · obtain ⟨n, hn, e, a1, _⟩ := of_find l c h
      rw [e]; exact a1
    · obtain rfl : c = l.length := by omega
      rw [ofT_end, atN_full]
      exact Nat.le_refl _
  refine ⟨fun h => by omega, fun h => ?_⟩
  obtain ⟨j, hj, hat, hof⟩ := border_at (lnA_border l k hk)
  have := of_mono h hc
  rw [hof] at this
  rw [← hat]
  exact atL_le l this (of_le hc)

set_option maxHeartbeats 2000000 in
theorem refwhere_out (s : ByteArray) (hs : s.size ≤ 1048576) (c : Int) (hc : c < 0 ∨ (s.size : Int) < c) (w : World) :
    Calls Tryd.prog 15 #[.string s, .int .i64 c] w fun e w' => e = .returned (.tuple #[.agg #[.int .i64 0, .int .i64 0], .int .i64 6]) ∧ Below w.heap.size w w' := by
  rcases hc with h0 | h1
  · go_enter Tryd.func15, Tryd.ntmps15
    go_wp2_with fail
    exact bodyPost_ret (v := .tuple #[.agg #[.int .i64 0, .int .i64 0], .int .i64 6]) (by simp [results, Tryd.results15, go_sem]) rfl ⟨rfl, al (Below.refl _ _) _⟩
  · have h0 : ¬ c < 0 := by omega
    go_enter Tryd.func15, Tryd.ntmps15
    go_wp2_with fail
    exact bodyPost_ret (v := .tuple #[.agg #[.int .i64 0, .int .i64 0], .int .i64 6]) (by simp [results, Tryd.results15, go_sem]) rfl ⟨rfl, al (Below.refl _ _) _⟩

set_option maxHeartbeats 4000000 in
theorem refwhere_at (s : ByteArray) (hs : s.size ≤ 1048576) (c : Nat) (hc : c ≤ s.size) (w : World) :
    Calls Tryd.prog 15 #[.string s, .int .i64 (c : Nat)] w fun e w' => e = .returned (.tuple #[.agg #[.int .i64 (lnOf (bs s) c : Nat), .int .i64 (colOf (bs s) c : Nat)], .int .i64 0]) ∧ Below w.heap.size w w' := by
  have HF := Lib.hid (fun w => reffirstp_any s c hc w)
  have HA := Lib.hid (fun w => refall_at s hs w)
  have hNl := lnN_le (bs s)
  have hcl : c ≤ (bs s).length := by rw [← size_bs]; exact hc
  have hCH := fun a (ha : a ≤ countN (bs s)) q hq hto w => refchars_any (s.extract (atN (bs s) a) s.size) (by rw [ByteArray.size_extract]; omega) q hq ((atN (bs s) (ofT (tk (bs s)) c) : Nat) - (atN (bs s) a : Nat)) hto w
  simp only [bs_drop] at hCH
  rw [← size_bs] at hNl
  obtain ⟨l, hl⟩ : ∃ l, bs s = l := ⟨_, rfl⟩
  rw [hl] at HF HA hNl hcl hCH ⊢
  obtain ⟨N, hN⟩ : ∃ N, lnN l = N := ⟨_, rfl⟩
  rw [hN] at HA hNl
  obtain ⟨M, hM⟩ : ∃ M, atN l (ofT (tk l) c) = M := ⟨_, rfl⟩
  rw [hM] at HF
  have HN := Lib.hid hN
  have HM := Lib.hid hM
  have hMs : M ≤ s.size := by
    have := (cut_at l (ofT (tk l) c) (of_le hcl)).1
    rw [hM, ← hl, ← size_bs] at this
    exact this
  have HCH := Lib.hid hCH
  have HCL := Lib.hid hcl
  clear hl hN hM hCH hcl
  have hc0 : decide ((c : Int) < 0) = false := decide_eq_false (by omega)
  have hc1 : decide (s.size < c) = false := decide_eq_false (by omega)
  go_enter Tryd.func15, Tryd.ntmps15
  have T0 := Two.new w 27 (.int .i64 0) (.int .i64 0)
  go_wp2_with (first
    | (go_at_call 31; (with_reducible refine (HF.out _).mono ?_); rintro e w1 ⟨rfl, hb1⟩)
    | (go_at_call 19; (with_reducible refine (HA.out _).mono ?_); rintro e w2 ⟨ao, ca, rfl, hx2, hb2⟩))
  have HX := Lib.hid hx2
  have T2 : Two w2 w.heap.size 27 (.int .i64 0) (.int .i64 0) := (hb2.block _ (Nat.lt_of_lt_of_le T0.lt hb1.size)).trans ((hb1.block _ T0.lt).trans T0)
  have hbw : Below w.heap.size w w2 := nx (nx (al (Below.refl _ _) _) hb1) hb2
  clear hx2 T0 hb1 hb2
  go_loop [7] (fun i => ∃ k, k ≤ N ∧ i = .int .i64 ((k : Nat) - 1) ∧ Hid (∀ j, k ≤ j → j < N → c < lnA l j)) (fun i => (intOf i + 1).toNat)
  case atStart => exact ⟨N, Nat.le_refl _, rfl, Lib.hid (fun j h1 h2 => absurd h2 (by omega))⟩
  case round =>
    obtain ⟨k, hk, rfl, hA⟩ := hrel
    by_cases hlt : 0 < k
    · obtain ⟨m, rfl⟩ : ∃ m, k = m + 1 := ⟨k - 1, by omega⟩
      rw [show (((m + 1 : Nat) : Int) - 1) = ((m : Nat) : Int) by omega]
      obtain ⟨g, rfl, x0, -, x2⟩ := HX.out m (by rw [HN.out]; omega)
      have hne : g ≠ w.heap.size := T2.ne x2 (by omega)
      clear x2
      have hki : (m : Int) < (N : Int) := by omega
      have hk0 : (0 : Int) ≤ (m : Int) := by omega
      have hk1 : m ≤ 1048577 := by omega
      have hiff := lnA_le_iff (l := l) (c := c) (k := m) (by rw [HN.out]; omega) HCL.out
      rw [HM.out] at hiff
      by_cases hle : lnA l m ≤ M
      · have hIs : IsLn l c m := ⟨by rw [HN.out]; omega, hiff.1 hle, fun h => hA.out (m + 1) (Nat.le_refl _) (by rw [HN.out] at h; exact h)⟩
        obtain ⟨a, ha, hat, hof⟩ := border_at (lnA_border l m hIs.1)
        have hq : ofT (tk l) c - a ≤ countN (l.drop (atN l a)) := by
          have h1 : countN (l.drop (atN l a)) = countN l - a := by unfold countN; rw [seg_drop l a ha, List.length_drop]
          have := of_le HCL.out
          omega
        have hao : a ≤ ofT (tk l) c := by
          have := of_mono hIs.2.1 HCL.out
          rwa [hof] at this
        have hto : ((atN l (ofT (tk l) c) : Nat) : Int) - (atN l a : Nat) = (atN (l.drop (atN l a)) (ofT (tk l) c - a) : Nat) := by
          have := seg_at l a (ofT (tk l) c - a) ha
          rw [show a + (ofT (tk l) c - a) = ofT (tk l) c by omega] at this
          omega
        have HC := Lib.hid (HCH.out a ha _ hq hto)
        have HCO := Lib.hid (show colOf l c = ofT (tk l) c - a by unfold colOf; rw [lnOf_eq hIs, hof])
        have HLN := Lib.hid (lnOf_eq hIs)
        rw [hat, HM.out] at HC
        obtain ⟨q, hqq⟩ : ∃ q, ofT (tk l) c - a = q := ⟨_, rfl⟩
        rw [hqq] at HC HCO
        obtain ⟨A, hAA⟩ : ∃ q, lnA l m = q := ⟨_, rfl⟩
        rw [hAA] at HC x0 hle
        have hd : decide (A ≤ M) = true := decide_eq_true hle
        have hAs : A ≤ s.size := by omega
        have f0 := T2.frozen0
        have f1 := T2.frozen1
        have d0 := T2.cell0
        have d1 := T2.cell1
        have hS : w2.cell? ⟨g, m * 3, none⟩ = some (.int .i64 (A : Nat)) ∧ w2.grownBy w2 (some w.heap.size) := ⟨x0, rfl, rfl, rfl, Nat.le_refl _, fun _ _ _ => rfl⟩
        clear hiff hle hIs ha hat hof hq hao hto hqq hAA hA
        go_wp2_with fail
        have hwr : IntKind.i64.wrap ((M : Int) - (A : Int)) = (M : Int) - (A : Int) := IntWalk.i64_in _ (by omega)
        go_region_held_law (fun w' => w'.cell? ⟨g, m * 3, none⟩ = some (.int .i64 (A : Nat)) ∧ w2.grownBy w' (some w.heap.size)) (first | (with_reducible exact gS_set (gS_set (by assumption) hne _ _) hne _ _) | (with_reducible assumption) | (with_reducible exact gS_keep hS (Below.refl _ _).drew) | (with_reducible exact gS_keep (by assumption) (by assumption)))
          (first | (go_at_call 32; (with_reducible refine (HC.out _).mono ?_); rintro e w8 ⟨rfl, hb8⟩; have T8 : Two w8 w.heap.size 27 (.int .i64 0) (.int .i64 0) := (hb8.block _ T2.lt).trans T2; have q0 := T8.cell0; have q1 := T8.cell1; have p0 := T8.frozen0; have p1 := T8.frozen1))
        all_goals
          have hb9 : Below w.heap.size w ((w8.setCell ⟨w.heap.size, 0, none⟩ (.int .i64 (m : Nat))).setCell ⟨w.heap.size, 1, none⟩ (.int .i64 (q : Nat))) := ((nx hbw.drew hb8).setCell (p := ⟨w.heap.size, 0, none⟩) (Nat.le_refl _) _).setCell (p := ⟨w.heap.size, 1, none⟩) (Nat.le_refl _) _
          have T9 := (T8.set0 (.int .i64 (m : Nat))).set1 (.int .i64 (q : Nat))
          obtain ⟨W9, hW9⟩ : ∃ W9, (w8.setCell ⟨w.heap.size, 0, none⟩ (.int .i64 (m : Nat))).setCell ⟨w.heap.size, 1, none⟩ (.int .i64 (q : Nat)) = W9 := ⟨_, rfl⟩
          rw [hW9] at hb9 T9 ⊢
          have r0 := T9.cell0
          have r1 := T9.cell1
          clear hS q0 q1 p0 p1 x0 T8 hW9 hwr
          go_wp2_with fail
          exact bodyPost_ret (v := .tuple #[.agg #[.int .i64 (m : Nat), .int .i64 (q : Nat)], .int .i64 0]) (by simp [results, Tryd.results15, go_sem, r0, r1]) rfl ⟨by rw [HLN.out, HCO.out], hb9⟩
      · have hd : decide (lnA l m ≤ M) = false := decide_eq_false hle
        have HA2 := Lib.hid (show ∀ j, m ≤ j → j < N → c < lnA l j from fun j h1 h2 => by
          by_cases e : j = m
          · rw [e]
            rcases Nat.lt_or_ge c (lnA l m) with h | h
            · exact h
            · exact absurd (hiff.2 h) hle
          · exact hA.out j (by omega) h2)
        obtain ⟨A, hAA⟩ : ∃ q, lnA l m = q := ⟨_, rfl⟩
        rw [hAA] at x0 hd
        clear hiff hle hAA hA
        go_wp2_with fail
        exact ⟨⟨m, by omega, rfl, HA2⟩, by simp only [intOf]; omega⟩
    · obtain rfl : k = 0 := by omega
      exfalso
      have h1 := hA.out 0 (Nat.le_refl _) (by rw [← HN.out]; exact lnN_pos l)
      rw [lnA_zero] at h1
      omega
end Go.Proofs.YtebmjmohhpkonaaDoor
