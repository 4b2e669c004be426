/-
  The walk of LinesBack: there and back.
-/
import Derived.Test.YtebmjmohhpkonaaDoorLBackLaw
import Derived.Test.YtebmjmohhpkonaaDoorLWorks
namespace Go.Proofs.YtebmjmohhpkonaaDoor
open Go.RowKit

set_option maxHeartbeats 2000000 in
theorem lbegins_any (s : ByteArray) (c : Nat) (hcs : c ≤ s.size) (b : Bool) (hb : b = true ↔ Border (bs s) c) (w : World) :
    Calls Tryd.prog 18 #[.string s, .int .i64 (c : Nat)] w fun e w' => e = .returned (.bool b) ∧ Below w.heap.size w w' := by
  obtain ⟨l, hl⟩ : ∃ l, bs s = l := ⟨_, rfl⟩
  have hlen : l.length = s.size := by rw [← hl, size_bs]
  rw [hl] at hb
  have HL := Lib.hid hl
  have HB := Lib.hid hb
  clear hl hb
  go_enter Tryd.func18, Tryd.ntmps18
  go_wp2_with fail
  go_loopw [5] (fun _ wr => ∃ done p, Cut l done p ∧ wr.heap[w.heap.size]? = some (.stringIter s p) ∧ Hid (∀ i, i < done.length → atN l i ≠ c) ∧ Below w.heap.size w wr) (fun _ wr => s.size - wr.iterPos w.heap.size)
  case atStart => exact ⟨[], 0, Cut.zero _, World.iter_heap _ _ _, Lib.hid (fun i h => absurd h (Nat.not_lt_zero _)), al (Below.refl _ _) _⟩
  case round =>
    obtain ⟨done, p, hc, hit, hne, hb⟩ := hrel
    by_cases hp : p < s.size
    · have hp' : p < l.length := by omega
      by_cases he : p = c
      · subst he
        have HV := Lib.hid (show true = b from (HB.out.2 ⟨_, hc⟩).symm)
        have hnx := fun ty => Lib.run_next_any_at (P := Tryd.prog) wr w.heap.size s p ty hit hp
        rw [decode_bs, HL.out] at hnx
        have hcs := hc.step hp'
        have hw := (wid_bounds (l.drop p)).1
        obtain ⟨d, hd⟩ : ∃ d, d = Lib.decodeL (l.drop p) := ⟨_, rfl⟩
        rw [← hd] at hnx hcs hw
        obtain ⟨r, n'⟩ := d
        simp only at hnx hw hcs
        have hbi : Below w.heap.size wr (wr.iterAt w.heap.size s (p + n')) := Lib.below_iterAt (Below.refl _ _) (Nat.le_refl _) s (p + n')
        have HIT := Lib.hid (Lib.iterAt_heap wr w.heap.size s p (p + n') hit)
        have HIP := Lib.hid (show wr.iterPos w.heap.size = p from iterPos_of hit)
        have hbV : Below w.heap.size w (wr.iterAt w.heap.size s (p + n')) := hb.trans hbi
        obtain ⟨V, hV⟩ : ∃ V, wr.iterAt w.heap.size s (p + n') = V := ⟨_, rfl⟩
        rw [hV] at hnx HIT hbV
        have HCS := Lib.hid hcs
        clear hd hc hit hcs hV hbi hb hp'
        go_wp2_with fail
        go_ret
        exact ⟨ret_bool HV.out, hbV⟩
      · have he1 : (((p : Nat) : Int) == (c : Int)) = false := beq_eq_false_iff_ne.2 (by omega)
        have HNE := Lib.hid (show ∀ x, ∀ i, i < (done ++ [x]).length → atN l i ≠ c from fun x i hi => by
          rw [List.length_append, List.length_singleton] at hi
          by_cases e : i = done.length
          · rw [e, hc.at']; exact he
          · exact hne.out i (by omega))
        have hnx := fun ty => Lib.run_next_any_at (P := Tryd.prog) wr w.heap.size s p ty hit hp
        rw [decode_bs, HL.out] at hnx
        have hcs := hc.step hp'
        have hw := (wid_bounds (l.drop p)).1
        obtain ⟨d, hd⟩ : ∃ d, d = Lib.decodeL (l.drop p) := ⟨_, rfl⟩
        rw [← hd] at hnx hcs hw
        obtain ⟨r, n'⟩ := d
        simp only at hnx hw hcs
        have hbi : Below w.heap.size wr (wr.iterAt w.heap.size s (p + n')) := Lib.below_iterAt (Below.refl _ _) (Nat.le_refl _) s (p + n')
        have HIT := Lib.hid (Lib.iterAt_heap wr w.heap.size s p (p + n') hit)
        have HIP := Lib.hid (show wr.iterPos w.heap.size = p from iterPos_of hit)
        have hbV : Below w.heap.size w (wr.iterAt w.heap.size s (p + n')) := hb.trans hbi
        obtain ⟨V, hV⟩ : ∃ V, wr.iterAt w.heap.size s (p + n') = V := ⟨_, rfl⟩
        rw [hV] at hnx HIT hbV
        have HCS := Lib.hid hcs
        clear hd hc hit hcs hV hbi hb hp' he
        go_wp2_with fail
        go_roundw
        case rel => exact ⟨_, _, HCS.out, HIT.out, Lib.hid (HNE.out _), hbV⟩
        case measure => rw [iterPos_of HIT.out, HIP.out]; omega
    · have hnx := fun ty => Lib.run_next_end_at (P := Tryd.prog) wr w.heap.size s p ty hit hp
      have hE := (hc.end' (by omega)).1
      have HC := Lib.hid (show b = decide (c = s.size) from by
        rw [Bool.eq_iff_iff, HB.out, decide_eq_true_eq]
        constructor
        · intro hbd
          obtain ⟨m, hm, hat, _⟩ := border_at hbd
          rcases Nat.lt_or_ge m (countN l) with h | h
          · exact absurd hat (hne.out m (by rw [hE]; exact h))
          · obtain rfl : m = countN l := by omega
            rw [atN_full] at hat
            omega
        · intro e
          rw [e, ← hlen]
          exact ⟨_, Cut.full l⟩)
      clear hE hc hit
      by_cases he : c = s.size
      · have he1 : (((c : Nat) : Int) == (s.size : Int)) = true := beq_iff_eq.2 (by omega)
        have HV := Lib.hid (show b = true by rw [HC.out]; exact decide_eq_true he)
        clear he
        go_wp2_with fail
        go_ret
        exact ⟨ret_bool HV.out.symm, hb⟩
      · have he1 : (((c : Nat) : Int) == (s.size : Int)) = false := beq_eq_false_iff_ne.2 (by omega)
        have HV := Lib.hid (show b = false by rw [HC.out]; exact decide_eq_false he)
        clear he
        go_wp2_with fail
        go_ret
        exact ⟨ret_bool HV.out.symm, hb⟩

set_option maxRecDepth 100000 in
set_option maxHeartbeats 8000000 in
theorem linesBack_any (s : ByteArray) (hs : s.size ≤ 140737488351232) (w : World) (hT : Tabs w) :
    Calls Tryd.prog 6 #[.string s] w fun e w' => e = .returned (.bool true) ∧ Below w.heap.size w w' := by
  have HT := Lib.hid hT
  have HWK := Lib.hid works_any
  clear hT
  go_enter Tryd.func6, Tryd.ntmps6
  go_wp2_with fail
  go_loopw [4] (fun i wr => ∃ c K0 C0 : Nat, i = .int .i64 (c : Nat) ∧ c ≤ s.size + 1 ∧ c ≤ 200 ∧ Two wr w.heap.size 27 (.int .i64 (K0 : Nat)) (.int .i64 (C0 : Nat)) ∧ Hid (∀ d, c ≤ d → d ≤ s.size → K0 < lnOf (bs s) d ∨ K0 = lnOf (bs s) d ∧ C0 ≤ colOf (bs s) d) ∧ Below w.heap.size w wr) (fun i _ => 200 - (intOf i).toNat)
  case atStart => exact ⟨0, 0, 0, rfl, Nat.zero_le _, by omega, Two.new _ _ _ _, Lib.hid (fun d _ _ => by omega), al (Below.refl _ _) _⟩
  case round =>
    obtain ⟨c, K0, C0, rfl, hc1, hc2, t0, hmono, hbr⟩ := hrel
    by_cases h1 : c ≤ s.size
    · by_cases h2 : c < 200
      · have hlen := size_bs s
        have HW := Lib.hid (fun w hT => lwhere_at s hs c h1 w hT)
        have hm := hmono.out c (Nat.le_refl _) h1
        have hnext : ∀ d, c + 1 ≤ d → d ≤ s.size → lnOf (bs s) c < lnOf (bs s) d ∨ lnOf (bs s) c = lnOf (bs s) d ∧ colOf (bs s) c ≤ colOf (bs s) d := fun d hd hd2 => where_mono (by omega) (by omega)
        have HPL := Lib.hid (fun w hT => lplace_any s hs (lnOf (bs s) c : Nat) (colOf (bs s) c : Nat) w hT)
        have htb := there_back (l := bs s) (c := c) (by omega)
        obtain ⟨K, hK⟩ : ∃ K, lnOf (bs s) c = K := ⟨_, rfl⟩
        obtain ⟨C, hC⟩ : ∃ K, colOf (bs s) c = K := ⟨_, rfl⟩
        rw [hK, hC] at HW hm HPL htb
        simp only [hK, hC] at hnext
        have HN := Lib.hid hnext
        have h1i : (c : Int) ≤ (s.size : Int) := by omega
        have h2i : (c : Int) < 200 := by omega
        rw [← size_bs] at htb
        clear hnext hK hC hmono hlen
        rcases hm with hm | ⟨hm, hm2⟩
        · have gK : decide (K < K0) = false := decide_eq_false (by omega)
          have gE : (((K : Nat) : Int) == (K0 : Int)) = false := beq_eq_false_iff_ne.2 (by omega)
          clear hm
          rcases htb with ⟨p, hp, hp1, hp2, hp3⟩ | ⟨hp, hp1, hp2, hp3, hp4⟩
          · rw [hp] at HPL
            have g1 : decide (c < p) = false := decide_eq_false (by omega)
            have g2 : decide ((p : Int) < (c : Int) - 3) = false := decide_eq_false (by omega)
            by_cases he : p = c
            · have g3 : (((p : Nat) : Int) != (c : Int)) = false := by simp; omega
              clear hp hp3 he
              go_wp2_with (first
                | (go_at_call 14; (with_reducible refine (HW.out _ (HT.out.below hbr (Nat.le_refl _))).mono ?_); rintro e w1 ⟨rfl, hb1⟩; have hbw := nx hbr hb1; have t1 : Two w1 w.heap.size 27 (.int .i64 (K0 : Nat)) (.int .i64 (C0 : Nat)) := (hb1.block _ t0.lt).trans t0; have d0 := t1.cell0; have d1 := t1.cell1; have f0 := t1.frozen0; have f1 := t1.frozen1; have hlt1 := t1.lt)
                | (go_at_call 16; (with_reducible refine (HPL.out _ (HT.out.below (al ((hbw.setCell (p := ⟨w.heap.size, 0, none⟩) (Nat.le_refl _) _).setCell (p := ⟨w.heap.size, 1, none⟩) (Nat.le_refl _) _) _) (Nat.le_refl _))).mono ?_); rintro e w2 ⟨rfl, hb2⟩; clear d0 d1 f0 f1 hlt1)
                | (go_at_call 18; (with_reducible refine (HBG.out _).mono ?_); rintro e w3 ⟨rfl, hb3⟩))
              have hbW := nx (al ((hbw.setCell (p := ⟨w.heap.size, 0, none⟩) (Nat.le_refl _) (.int .i64 (K : Nat))).setCell (p := ⟨w.heap.size, 1, none⟩) (Nat.le_refl _) (.int .i64 (C : Nat))) _) hb2
              have tW : Two w2 w.heap.size 27 (.int .i64 (K : Nat)) (.int .i64 (C : Nat)) := (hb2.block _ (Two.alloc ((t1.set0 (.int .i64 (K : Nat))).set1 (.int .i64 (C : Nat))) _).lt).trans (Two.alloc ((t1.set0 (.int .i64 (K : Nat))).set1 (.int .i64 (C : Nat))) _)
              exact ⟨⟨c + 1, K, C, by go_num, by omega, by omega, tW, HN, hbW⟩, by simp [intOf]; omega⟩
            · have g3 : (((p : Nat) : Int) != (c : Int)) = true := bne_iff_ne.2 (by omega)
              have HBG := Lib.hid (fun w => lbegins_any s c h1 false (by constructor; intro h; cases h; intro h; exact absurd (hp3.2 h) he) w)
              clear hp hp3 he
              go_wp2_with (first
                | (go_at_call 14; (with_reducible refine (HW.out _ (HT.out.below hbr (Nat.le_refl _))).mono ?_); rintro e w1 ⟨rfl, hb1⟩; have hbw := nx hbr hb1; have t1 : Two w1 w.heap.size 27 (.int .i64 (K0 : Nat)) (.int .i64 (C0 : Nat)) := (hb1.block _ t0.lt).trans t0; have d0 := t1.cell0; have d1 := t1.cell1; have f0 := t1.frozen0; have f1 := t1.frozen1; have hlt1 := t1.lt)
                | (go_at_call 16; (with_reducible refine (HPL.out _ (HT.out.below (al ((hbw.setCell (p := ⟨w.heap.size, 0, none⟩) (Nat.le_refl _) _).setCell (p := ⟨w.heap.size, 1, none⟩) (Nat.le_refl _) _) _) (Nat.le_refl _))).mono ?_); rintro e w2 ⟨rfl, hb2⟩; clear d0 d1 f0 f1 hlt1)
                | (go_at_call 18; (with_reducible refine (HBG.out _).mono ?_); rintro e w3 ⟨rfl, hb3⟩))
              have hbW := nx (al ((hbw.setCell (p := ⟨w.heap.size, 0, none⟩) (Nat.le_refl _) (.int .i64 (K : Nat))).setCell (p := ⟨w.heap.size, 1, none⟩) (Nat.le_refl _) (.int .i64 (C : Nat))) _) hb2
              have tW : Two w2 w.heap.size 27 (.int .i64 (K : Nat)) (.int .i64 (C : Nat)) := (hb2.block _ (Two.alloc ((t1.set0 (.int .i64 (K : Nat))).set1 (.int .i64 (C : Nat))) _).lt).trans (Two.alloc ((t1.set0 (.int .i64 (K : Nat))).set1 (.int .i64 (C : Nat))) _)
              exact ⟨⟨c + 1, K, C, by go_num, by omega, by omega, (hb3.block _ tW.lt).trans tW, HN, nx hbW hb3⟩, by simp [intOf]; omega⟩
          · rw [hp] at HPL
            obtain ⟨j, hj⟩ : ∃ j : Nat, j = c - 1 := ⟨_, rfl⟩
            rw [← hj] at hp3
            have hcj : (c : Int) - 1 = (j : Int) := by omega
            have hj0 : (0 : Int) ≤ (j : Int) := by omega
            have hjs : j < s.size := by omega
            have hjz : (j : Int) < (s.size : Int) := by omega
            have hcs : c < s.size := by omega
            have hcz : (c : Int) < (s.size : Int) := by omega
            have hc0 : (0 : Int) ≤ (c : Int) := by omega
            have hcz' : (((c : Nat) : Int) == 0) = false := beq_eq_false_iff_ne.2 (by omega)
            have hcd : decide (s.size ≤ c) = false := decide_eq_false (by omega)
            have gj := get_bs s j hjs
            have gc := get_bs s c hcs
            rw [hp3] at gj
            rw [hp4] at gc
            clear hp hp1 hp2 hp3 hp4 hj
            go_wp2_with (first
              | (go_at_call 14; (with_reducible refine (HW.out _ (HT.out.below hbr (Nat.le_refl _))).mono ?_); rintro e w1 ⟨rfl, hb1⟩; have hbw := nx hbr hb1; have t1 : Two w1 w.heap.size 27 (.int .i64 (K0 : Nat)) (.int .i64 (C0 : Nat)) := (hb1.block _ t0.lt).trans t0; have d0 := t1.cell0; have d1 := t1.cell1; have f0 := t1.frozen0; have f1 := t1.frozen1; have hlt1 := t1.lt)
              | (go_at_call 16; (with_reducible refine (HPL.out _ (HT.out.below (al ((hbw.setCell (p := ⟨w.heap.size, 0, none⟩) (Nat.le_refl _) _).setCell (p := ⟨w.heap.size, 1, none⟩) (Nat.le_refl _) _) _) (Nat.le_refl _))).mono ?_); rintro e w2 ⟨rfl, hb2⟩; clear d0 d1 f0 f1 hlt1)
              | (go_at_call 18; (with_reducible refine (HBG.out _).mono ?_); rintro e w3 ⟨rfl, hb3⟩))
            have hbW := nx (al ((hbw.setCell (p := ⟨w.heap.size, 0, none⟩) (Nat.le_refl _) (.int .i64 (K : Nat))).setCell (p := ⟨w.heap.size, 1, none⟩) (Nat.le_refl _) (.int .i64 (C : Nat))) _) hb2
            have tW : Two w2 w.heap.size 27 (.int .i64 (K : Nat)) (.int .i64 (C : Nat)) := (hb2.block _ (Two.alloc ((t1.set0 (.int .i64 (K : Nat))).set1 (.int .i64 (C : Nat))) _).lt).trans (Two.alloc ((t1.set0 (.int .i64 (K : Nat))).set1 (.int .i64 (C : Nat))) _)
            exact ⟨⟨c + 1, K, C, by go_num, by omega, by omega, tW, HN, hbW⟩, by simp [intOf]; omega⟩
        · have gK : decide (K < K0) = false := decide_eq_false (by omega)
          have gE : (((K : Nat) : Int) == (K0 : Int)) = true := beq_iff_eq.2 (by omega)
          have gC : decide (C < C0) = false := decide_eq_false (by omega)
          clear hm hm2
          rcases htb with ⟨p, hp, hp1, hp2, hp3⟩ | ⟨hp, hp1, hp2, hp3, hp4⟩
          · rw [hp] at HPL
            have g1 : decide (c < p) = false := decide_eq_false (by omega)
            have g2 : decide ((p : Int) < (c : Int) - 3) = false := decide_eq_false (by omega)
            by_cases he : p = c
            · have g3 : (((p : Nat) : Int) != (c : Int)) = false := by simp; omega
              clear hp hp3 he
              go_wp2_with (first
                | (go_at_call 14; (with_reducible refine (HW.out _ (HT.out.below hbr (Nat.le_refl _))).mono ?_); rintro e w1 ⟨rfl, hb1⟩; have hbw := nx hbr hb1; have t1 : Two w1 w.heap.size 27 (.int .i64 (K0 : Nat)) (.int .i64 (C0 : Nat)) := (hb1.block _ t0.lt).trans t0; have d0 := t1.cell0; have d1 := t1.cell1; have f0 := t1.frozen0; have f1 := t1.frozen1; have hlt1 := t1.lt)
                | (go_at_call 16; (with_reducible refine (HPL.out _ (HT.out.below (al ((hbw.setCell (p := ⟨w.heap.size, 0, none⟩) (Nat.le_refl _) _).setCell (p := ⟨w.heap.size, 1, none⟩) (Nat.le_refl _) _) _) (Nat.le_refl _))).mono ?_); rintro e w2 ⟨rfl, hb2⟩; clear d0 d1 f0 f1 hlt1)
                | (go_at_call 18; (with_reducible refine (HBG.out _).mono ?_); rintro e w3 ⟨rfl, hb3⟩))
              have hbW := nx (al ((hbw.setCell (p := ⟨w.heap.size, 0, none⟩) (Nat.le_refl _) (.int .i64 (K : Nat))).setCell (p := ⟨w.heap.size, 1, none⟩) (Nat.le_refl _) (.int .i64 (C : Nat))) _) hb2
              have tW : Two w2 w.heap.size 27 (.int .i64 (K : Nat)) (.int .i64 (C : Nat)) := (hb2.block _ (Two.alloc ((t1.set0 (.int .i64 (K : Nat))).set1 (.int .i64 (C : Nat))) _).lt).trans (Two.alloc ((t1.set0 (.int .i64 (K : Nat))).set1 (.int .i64 (C : Nat))) _)
              exact ⟨⟨c + 1, K, C, by go_num, by omega, by omega, tW, HN, hbW⟩, by simp [intOf]; omega⟩
            · have g3 : (((p : Nat) : Int) != (c : Int)) = true := bne_iff_ne.2 (by omega)
              have HBG := Lib.hid (fun w => lbegins_any s c h1 false (by constructor; intro h; cases h; intro h; exact absurd (hp3.2 h) he) w)
              clear hp hp3 he
              go_wp2_with (first
                | (go_at_call 14; (with_reducible refine (HW.out _ (HT.out.below hbr (Nat.le_refl _))).mono ?_); rintro e w1 ⟨rfl, hb1⟩; have hbw := nx hbr hb1; have t1 : Two w1 w.heap.size 27 (.int .i64 (K0 : Nat)) (.int .i64 (C0 : Nat)) := (hb1.block _ t0.lt).trans t0; have d0 := t1.cell0; have d1 := t1.cell1; have f0 := t1.frozen0; have f1 := t1.frozen1; have hlt1 := t1.lt)
                | (go_at_call 16; (with_reducible refine (HPL.out _ (HT.out.below (al ((hbw.setCell (p := ⟨w.heap.size, 0, none⟩) (Nat.le_refl _) _).setCell (p := ⟨w.heap.size, 1, none⟩) (Nat.le_refl _) _) _) (Nat.le_refl _))).mono ?_); rintro e w2 ⟨rfl, hb2⟩; clear d0 d1 f0 f1 hlt1)
                | (go_at_call 18; (with_reducible refine (HBG.out _).mono ?_); rintro e w3 ⟨rfl, hb3⟩))
              have hbW := nx (al ((hbw.setCell (p := ⟨w.heap.size, 0, none⟩) (Nat.le_refl _) (.int .i64 (K : Nat))).setCell (p := ⟨w.heap.size, 1, none⟩) (Nat.le_refl _) (.int .i64 (C : Nat))) _) hb2
              have tW : Two w2 w.heap.size 27 (.int .i64 (K : Nat)) (.int .i64 (C : Nat)) := (hb2.block _ (Two.alloc ((t1.set0 (.int .i64 (K : Nat))).set1 (.int .i64 (C : Nat))) _).lt).trans (Two.alloc ((t1.set0 (.int .i64 (K : Nat))).set1 (.int .i64 (C : Nat))) _)
              exact ⟨⟨c + 1, K, C, by go_num, by omega, by omega, (hb3.block _ tW.lt).trans tW, HN, nx hbW hb3⟩, by simp [intOf]; omega⟩
          · rw [hp] at HPL
            obtain ⟨j, hj⟩ : ∃ j : Nat, j = c - 1 := ⟨_, rfl⟩
            rw [← hj] at hp3
            have hcj : (c : Int) - 1 = (j : Int) := by omega
            have hj0 : (0 : Int) ≤ (j : Int) := by omega
            have hjs : j < s.size := by omega
            have hjz : (j : Int) < (s.size : Int) := by omega
            have hcs : c < s.size := by omega
            have hcz : (c : Int) < (s.size : Int) := by omega
            have hc0 : (0 : Int) ≤ (c : Int) := by omega
            have hcz' : (((c : Nat) : Int) == 0) = false := beq_eq_false_iff_ne.2 (by omega)
            have hcd : decide (s.size ≤ c) = false := decide_eq_false (by omega)
            have gj := get_bs s j hjs
            have gc := get_bs s c hcs
            rw [hp3] at gj
            rw [hp4] at gc
            clear hp hp1 hp2 hp3 hp4 hj
            go_wp2_with (first
              | (go_at_call 14; (with_reducible refine (HW.out _ (HT.out.below hbr (Nat.le_refl _))).mono ?_); rintro e w1 ⟨rfl, hb1⟩; have hbw := nx hbr hb1; have t1 : Two w1 w.heap.size 27 (.int .i64 (K0 : Nat)) (.int .i64 (C0 : Nat)) := (hb1.block _ t0.lt).trans t0; have d0 := t1.cell0; have d1 := t1.cell1; have f0 := t1.frozen0; have f1 := t1.frozen1; have hlt1 := t1.lt)
              | (go_at_call 16; (with_reducible refine (HPL.out _ (HT.out.below (al ((hbw.setCell (p := ⟨w.heap.size, 0, none⟩) (Nat.le_refl _) _).setCell (p := ⟨w.heap.size, 1, none⟩) (Nat.le_refl _) _) _) (Nat.le_refl _))).mono ?_); rintro e w2 ⟨rfl, hb2⟩; clear d0 d1 f0 f1 hlt1)
              | (go_at_call 18; (with_reducible refine (HBG.out _).mono ?_); rintro e w3 ⟨rfl, hb3⟩))
            have hbW := nx (al ((hbw.setCell (p := ⟨w.heap.size, 0, none⟩) (Nat.le_refl _) (.int .i64 (K : Nat))).setCell (p := ⟨w.heap.size, 1, none⟩) (Nat.le_refl _) (.int .i64 (C : Nat))) _) hb2
            have tW : Two w2 w.heap.size 27 (.int .i64 (K : Nat)) (.int .i64 (C : Nat)) := (hb2.block _ (Two.alloc ((t1.set0 (.int .i64 (K : Nat))).set1 (.int .i64 (C : Nat))) _).lt).trans (Two.alloc ((t1.set0 (.int .i64 (K : Nat))).set1 (.int .i64 (C : Nat))) _)
            exact ⟨⟨c + 1, K, C, by go_num, by omega, by omega, tW, HN, hbW⟩, by simp [intOf]; omega⟩
      · have h1i : (c : Int) ≤ (s.size : Int) := by omega
        have h2i : decide ((c : Int) < 200) = false := decide_eq_false (by omega)
        have HO := Lib.hid (fun w => lwhere_out s hs ((s.size : Int) + 1) (.inr (by omega)) w)
        go_wp2_with (first
          | (go_at_call 14; (with_reducible refine (HO.out _).mono ?_); rintro e w1 ⟨rfl, hb1⟩; have hbw := nx hbr hb1)
          | (go_at_call 13; (with_reducible refine (HWK.out _ (HT.out.below (al hbw _) (Nat.le_refl _))).mono ?_); rintro e w2 ⟨rfl, hb2⟩))
        go_ret
        exact ⟨rfl, nx (al hbw _) hb2⟩
    · have h1i : decide (c ≤ s.size) = false := decide_eq_false h1
      have HO := Lib.hid (fun w => lwhere_out s hs ((s.size : Int) + 1) (.inr (by omega)) w)
      go_wp2_with (first
        | (go_at_call 14; (with_reducible refine (HO.out _).mono ?_); rintro e w1 ⟨rfl, hb1⟩; have hbw := nx hbr hb1)
        | (go_at_call 13; (with_reducible refine (HWK.out _ (HT.out.below (al hbw _) (Nat.le_refl _))).mono ?_); rintro e w2 ⟨rfl, hb2⟩))
      go_ret
      exact ⟨rfl, nx (al hbw _) hb2⟩
end Go.Proofs.YtebmjmohhpkonaaDoor
