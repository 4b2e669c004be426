/-
  LinesKnown: the chapter's examples: each statement of the chapter answers true at each of its fourteen texts. Conditions: the card's tables.
-/
import Derived.Test.YtebmjmohhpkonaaDoorLRefAll
import Derived.Test.YtebmjmohhpkonaaDoorLPlace
import Derived.Test.YtebmjmohhpkonaaDoorLRefWhere
import Derived.Test.YtebmjmohhpkonaaDoorLWorks
import Derived.Test.YtebmjmohhpkonaaDoorLRefEnd
import Derived.Test.YtebmjmohhpkonaaDoorLBackLaw
import Derived.Test.YtebmjmohhpkonaaDoorLAllWalk
import Derived.Test.YtebmjmohhpkonaaDoorLWhole
import Derived.Test.YtebmjmohhpkonaaDoorDoor
import Derived.Test.YtebmjmohhpkonaaDoorCards
import Derived.Test.YtebmjmohhpkonaaDoorTie
import Derived.ShutString
import Derived.ChangeOld
import Derived.SizedLaws
namespace Go.Proofs.YtebmjmohhpkonaaDoor
open Go.RowKit

set_option maxHeartbeats 4000000 in
theorem refplace_any (s : ByteArray) (hs : s.size ≤ 1048576) (L C : Int) (w : World) :
    Calls Tryd.prog 17 #[.string s, .agg #[.int .i64 L, .int .i64 C]] w fun e w' => e = .returned (.tuple #[.int .i64 (placeZ (bs s) L C).1, .int .i64 (placeZ (bs s) L C).2]) ∧ Below w.heap.size w w' := by
  have HA := Lib.hid (fun w => refall_at s hs w)
  have hNl := lnN_le (bs s)
  rw [← size_bs] at hNl
  have T0 := Two.new w 27 (.int .i64 L) (.int .i64 C)
  have d0 := T0.cell0
  by_cases hL : L < 0 ∨ (lnN (bs s) : Int) ≤ L
  · rw [placeZ_out hL]
    obtain ⟨N, hN⟩ : ∃ N, lnN (bs s) = N := ⟨_, rfl⟩
    rw [hN] at HA hNl hL
    clear hN
    rcases hL with h0 | h1
    · go_enter Tryd.func17, Tryd.ntmps17
      go_wp2_with (first
        | (go_at_call 19; (with_reducible refine (HA.out _).mono ?_); rintro e w2 ⟨ao, ca, rfl, hx2, hb2⟩; have T2 : Two w2 w.heap.size 27 (.int .i64 L) (.int .i64 C) := (hb2.block _ T0.lt).trans T0; have d2 := T2.cell0; clear hx2))
      go_ret2
      exact ⟨rfl, nx (al (Below.refl _ _) _) hb2⟩
    · have h0 : ¬ L < 0 := by omega
      go_enter Tryd.func17, Tryd.ntmps17
      go_wp2_with (first
        | (go_at_call 19; (with_reducible refine (HA.out _).mono ?_); rintro e w2 ⟨ao, ca, rfl, hx2, hb2⟩; have T2 : Two w2 w.heap.size 27 (.int .i64 L) (.int .i64 C) := (hb2.block _ T0.lt).trans T0; have d2 := T2.cell0; clear hx2))
      go_ret2
      exact ⟨rfl, nx (al (Below.refl _ _) _) hb2⟩
  · obtain ⟨k, rfl⟩ : ∃ k : Nat, L = (k : Nat) := ⟨L.toNat, by omega⟩
    have hk : k < lnN (bs s) := by omega
    obtain ⟨g1, g2, g3, -⟩ := ln_get (bs s) k hk
    rw [← size_bs] at g2
    have hin := fun j (hj : j ≤ countN (pieceL (bs s) (lnA (bs s) k) (lnB (bs s) k))) => placeZ_in hk hj
    have hout := fun h => placeZ_col (l := bs s) (k := k) (C := C) h
    have hPz : bs (s.extract (lnA (bs s) k) (lnB (bs s) k)) = pieceL (bs s) (lnA (bs s) k) (lnB (bs s) k) := bs_extract s _ _
    have hpl : (pieceL (bs s) (lnA (bs s) k) (lnB (bs s) k)).length = lnB (bs s) k - lnA (bs s) k := by unfold pieceL; rw [List.length_take, List.length_drop, ← size_bs]; omega
    have hlk : ∀ w' ao, LinesAt w' ao (bs s) → ∃ g, ao = some ⟨g, 0, none⟩ ∧ w'.cell? ⟨g, k * 3, none⟩ = some (.int .i64 (lnA (bs s) k : Nat)) ∧ w'.cell? ⟨g, k * 3 + 1, none⟩ = some (.int .i64 (lnB (bs s) k : Nat)) := fun w' ao h => by
      obtain ⟨g, e, h0, h1, _⟩ := h k hk
      exact ⟨g, e, h0, h1⟩
    have HLK := Lib.hid hlk
    obtain ⟨l, hl⟩ : ∃ l, bs s = l := ⟨_, rfl⟩
    rw [hl] at HA hNl hk g1 g2 g3 hin hout hPz hpl HLK ⊢
    obtain ⟨N, hN⟩ : ∃ N, lnN l = N := ⟨_, rfl⟩
    obtain ⟨A, hA⟩ : ∃ A, lnA l k = A := ⟨_, rfl⟩
    obtain ⟨B, hB⟩ : ∃ A, lnB l k = A := ⟨_, rfl⟩
    rw [hN] at HA hNl hk
    rw [hA, hB] at hPz hpl g1 hout
    simp only [hA, hB] at hin
    rw [hA, hB] at HLK
    rw [hB] at g2
    obtain ⟨T, hT⟩ : ∃ T, s.extract A B = T := ⟨_, rfl⟩
    obtain ⟨S, hS⟩ : ∃ S, pieceL l A B = S := ⟨_, rfl⟩
    rw [hT, hS] at hPz
    rw [hS] at hpl hout
    simp only [hS] at hin
    have HS := Lib.hid hPz
    have hTs : S.length = T.size := by rw [← hPz, size_bs]
    have HPL := Lib.hid hpl
    have HTS := Lib.hid hTs
    have HIN := Lib.hid hin
    have HOUT := Lib.hid hout
    have hki : (k : Int) < (N : Int) := by omega
    have hk0 : (0 : Int) ≤ (k : Int) := by omega
    have hk1 : k ≤ 1048577 := by omega
    have hkd : decide (N ≤ k) = false := decide_eq_false (by omega)
    have hk00 : decide ((k : Int) < 0) = false := decide_eq_false (by omega)
    have hBs : B ≤ s.size := by omega
    have hTB : T.size + A = B := by omega
    clear hin hout hPz hpl hlk hl hN hA hB hS hTs hL g2 g3
    go_enter Tryd.func17, Tryd.ntmps17
    go_wp2_with (first
      | (go_at_call 19; (with_reducible refine (HA.out _).mono ?_); rintro e w2 ⟨ao, ca, rfl, hx2, hb2⟩; have T2 : Two w2 w.heap.size 27 (.int .i64 (k : Nat)) (.int .i64 C) := (hb2.block _ T0.lt).trans T0; have d2 := T2.cell0; obtain ⟨g, rfl, x0, x1⟩ := HLK.out _ _ hx2; clear hx2))
    have T3 := Two.new w2 41 (.int .i64 (A : Nat)) (.int .i64 (B : Nat))
    have T2' := (Two.alloc T2 (.cells #[.int .i64 (A : Nat), .int .i64 (B : Nat)] 41))
    have hbw : Below w.heap.size w (w2.alloc (.cells #[.int .i64 (A : Nat), .int .i64 (B : Nat)] 41)) := al (nx (al (Below.refl _ _) _) hb2) _
    have hsz : (w2.alloc (.cells #[.int .i64 (A : Nat), .int .i64 (B : Nat)] 41)).heap.size = w2.heap.size + 1 := by rw [World.size_alloc]
    obtain ⟨X, hX⟩ : ∃ X, w2.alloc (.cells #[.int .i64 (A : Nat), .int .i64 (B : Nat)] 41) = X := ⟨_, rfl⟩
    obtain ⟨p3, hp3⟩ : ∃ p, w2.heap.size = p := ⟨_, rfl⟩
    simp only [hX, hp3] at T3 T2' hbw hsz ⊢
    rw [← hsz]
    have hlt3 : p3 < X.heap.size := T3.lt
    have hlt2 : w.heap.size < X.heap.size := T2'.lt
    clear hX hp3 T2 T0 d0 d2 x0 x1 hb2 hsz hT
    go_loopw [8] (fun n wr => ∃ done p, Cut S done p ∧ wr.heap[X.heap.size]? = some (.stringIter T p) ∧ n = .int .i64 (done.length : Nat) ∧ Hid (C < 0 ∨ (done.length : Int) ≤ C) ∧ Below X.heap.size X wr) (fun _ wr => T.size - wr.iterPos X.heap.size)
    case atStart => exact ⟨[], 0, Cut.zero _, World.iter_heap _ _ _, rfl, Lib.hid (by simp; omega), al (Below.refl _ _) _⟩
    case round =>
      obtain ⟨done, p, hc, hit, rfl, hcb, hb⟩ := hrel
      have hdl := hc.len_le
      have hple := hc.1
      by_cases hp : p < T.size
      · have hp' : p < S.length := by rw [HTS.out]; exact hp
        have hnx := fun ty => Lib.run_next_any_at (P := Tryd.prog) wr X.heap.size T p ty hit hp
        rw [decode_bs, HS.out] at hnx
        have hcs := hc.step hp'
        have hw := (wid_bounds (S.drop p)).1
        have hat := hc.at'
        have hlc := hc.lt_count hp'
        obtain ⟨d, hd⟩ : ∃ d, d = Lib.decodeL (S.drop p) := ⟨_, rfl⟩
        rw [← hd] at hnx hcs hw
        obtain ⟨r, n'⟩ := d
        simp only at hnx hw hcs
        have hbi : Below X.heap.size wr (wr.iterAt X.heap.size T (p + n')) := Lib.below_iterAt (Below.refl _ _) (Nat.le_refl _) T (p + n')
        have HIT := Lib.hid (Lib.iterAt_heap wr X.heap.size T p (p + n') hit)
        have HIP := Lib.hid (show wr.iterPos X.heap.size = p from iterPos_of hit)
        have hbV : Below X.heap.size X (wr.iterAt X.heap.size T (p + n')) := hb.trans hbi
        obtain ⟨V, hV⟩ : ∃ V, wr.iterAt X.heap.size T (p + n') = V := ⟨_, rfl⟩
        rw [hV] at hnx HIT hbV
        have HCS := Lib.hid hcs
        have t2 : Two V w.heap.size 27 (.int .i64 (k : Nat)) (.int .i64 C) := (hbV.block _ hlt2).trans T2'
        have t3 : Two V p3 41 (.int .i64 (A : Nat)) (.int .i64 (B : Nat)) := (hbV.block _ hlt3).trans T3
        have c1 := t2.cell1
        have c2 := t3.cell0
        have hdl2 : done.length ≤ 1048576 := by omega
        have hAp : A + p ≤ 1048576 := by omega
        by_cases he : (done.length : Int) = C
        · have hf : (((done.length : Nat) : Int) == C) = true := beq_iff_eq.2 he
          have HV := Lib.hid (show placeZ l (k : Nat) C = (((A + p : Nat) : Int), 0) by rw [← he, HIN.out done.length (by omega), hat])
          clear hd hc hit hcs hV hbi hb hp' hat hlc he hcb
          go_wp2_with fail
          go_ret2
          exact ⟨by rw [HV.out]; rfl, hbw.trans (hbV.mono hbw.size)⟩
        · have hf : (((done.length : Nat) : Int) == C) = false := beq_eq_false_iff_ne.2 he
          have HCB := Lib.hid (show C < 0 ∨ ((done ++ [(r, n')]).length : Int) ≤ C by rw [List.length_append, List.length_singleton]; have := hcb.out; omega)
          clear hd hc hit hcs hV hbi hb hp' hat hlc he hcb
          go_wp2_with fail
          exact ⟨⟨_, _, HCS.out, HIT.out, by rw [List.length_append, List.length_singleton]; go_num, HCB, hbV⟩, by rw [iterPos_of HIT.out, HIP.out]; omega⟩
      · have hnx := fun ty => Lib.run_next_end_at (P := Tryd.prog) wr X.heap.size T p ty hit hp
        have hE := hc.end' (by rw [HTS.out]; omega)
        have t2 : Two wr w.heap.size 27 (.int .i64 (k : Nat)) (.int .i64 C) := (hb.block _ hlt2).trans T2'
        have t3 : Two wr p3 41 (.int .i64 (A : Nat)) (.int .i64 (B : Nat)) := (hb.block _ hlt3).trans T3
        have c1 := t2.cell1
        have c2 := t3.cell1
        have hdc : done.length = countN S := by rw [hE.1]; rfl
        by_cases he : (done.length : Int) = C
        · have hf : (((done.length : Nat) : Int) == C) = true := beq_iff_eq.2 he
          have HV := Lib.hid (show placeZ l (k : Nat) C = (((B : Nat) : Int), 0) by
            rw [← he, HIN.out done.length (by omega), hdc, atN_full, HTS.out]
            congr 1
            omega)
          clear hE hc hit he hcb hdc
          go_wp2_with fail
          go_ret2
          exact ⟨by rw [HV.out]; rfl, hbw.trans (hb.mono hbw.size)⟩
        · have hf : (((done.length : Nat) : Int) == C) = false := beq_eq_false_iff_ne.2 he
          have HV := Lib.hid (show placeZ l (k : Nat) C = (0, 6) from HOUT.out (by rw [← hdc]; have := hcb.out; omega))
          clear hE hc hit he hcb hdc
          go_wp2_with fail
          go_ret2
          exact ⟨by rw [HV.out]; rfl, hbw.trans (hb.mono hbw.size)⟩
end Go.Proofs.YtebmjmohhpkonaaDoor

namespace Go.Proofs.YtebmjmohhpkonaaDoor
open Go.RowKit

theorem where_both (s : ByteArray) (hs : s.size ≤ 1048576) (c : Int) :
    ∃ a b er : Int, (∀ w, Tabs w → Calls Tryd.prog 14 #[.string s, .int .i64 c] w fun e w' => e = .returned (.tuple #[.agg #[.int .i64 a, .int .i64 b], .int .i64 er]) ∧ Below w.heap.size w w') ∧
      ∀ w, Calls Tryd.prog 15 #[.string s, .int .i64 c] w fun e w' => e = .returned (.tuple #[.agg #[.int .i64 a, .int .i64 b], .int .i64 er]) ∧ Below w.heap.size w w' := by
  by_cases h : c < 0 ∨ (s.size : Int) < c
  · exact ⟨0, 0, 6, fun w _ => lwhere_out s (by omega) c h w, fun w => refwhere_out s hs c h w⟩
  · obtain ⟨i, rfl⟩ : ∃ i : Nat, c = i := ⟨c.toNat, by omega⟩
    exact ⟨_, _, _, fun w hT => lwhere_at s (by omega) i (by omega) w hT, fun w => refwhere_at s hs i (by omega) w⟩
theorem place_both (s : ByteArray) (hs : s.size ≤ 1048576) (L C : Int) :
    ∃ v er : Int, (∀ w, Tabs w → Calls Tryd.prog 16 #[.string s, .agg #[.int .i64 L, .int .i64 C]] w fun e w' => e = .returned (.tuple #[.int .i64 v, .int .i64 er]) ∧ Below w.heap.size w w') ∧
      ∀ w, Calls Tryd.prog 17 #[.string s, .agg #[.int .i64 L, .int .i64 C]] w fun e w' => e = .returned (.tuple #[.int .i64 v, .int .i64 er]) ∧ Below w.heap.size w w' :=
  ⟨_, _, fun w hT => lplace_any s (by omega) L C w hT, fun w => refplace_any s hs L C w⟩

set_option maxHeartbeats 8000000 in
theorem linesWheres_any (s : ByteArray) (hs : s.size ≤ 1048576) (c : Int) (w : World) (hT : Tabs w) :
    Calls Tryd.prog 4 #[.string s, .int .i64 c] w fun e w' => e = .returned (.bool true) ∧ Below w.heap.size w w' := by
  have HT := Lib.hid hT
  have HW := Lib.hid works_any
  have es := eq_spot
  have gs := guard_spot
  obtain ⟨a, b, er, h1, h2⟩ := where_both s hs c
  have H1 := Lib.hid h1
  have H2 := Lib.hid h2
  clear hT h1 h2
  go_enter Tryd.func4, Tryd.ntmps4
  go_wp2_with (first
    | (go_at_call 14; (with_reducible refine (H1.out _ HT.out).mono ?_); rintro e w1 ⟨rfl, hb1⟩; have T1 := Two.new w1 27 (.int .i64 a) (.int .i64 b))
    | (go_at_call 15; (with_reducible refine (H2.out _).mono ?_); rintro e w2 ⟨rfl, hb2⟩; have T2 : Two w2 w1.heap.size 27 (.int .i64 a) (.int .i64 b) := (hb2.block _ T1.lt).trans T1; have q0 := T2.cell0; have q1 := T2.cell1; have q2 := T2.lt))
  have hsz1 := hb1.size
  have hsz2 := hb2.size
  rw [World.size_alloc] at hsz2
  have hb0 : Below w.heap.size w (w2.alloc (.cells #[.int .i64 a, .int .i64 b] 27)) := al (nx (al hb1 _) hb2) _
  have T3 := Two.alloc T2 (.cells #[.int .i64 a, .int .i64 b] 27)
  have T4 := Two.new w2 27 (.int .i64 a) (.int .i64 b)
  obtain ⟨X, hX⟩ : ∃ X, w2.alloc (.cells #[.int .i64 a, .int .i64 b] 27) = X := ⟨_, rfl⟩
  obtain ⟨p1, hp1⟩ : ∃ p, w1.heap.size = p := ⟨_, rfl⟩
  obtain ⟨p2, hp2⟩ : ∃ p, w2.heap.size = p := ⟨_, rfl⟩
  simp only [hX, hp1, hp2] at T3 T4 hb0 hsz1 hsz2 ⊢
  clear hX hp1 hp2 T1 T2 q0 q1 q2 hb1 hb2 H1 H2
  go_loopw [9] (fun i wr => ∃ z a1 b1 a2 b2 : Int, -1 ≤ z ∧ z ≤ 60 ∧ i = .int .i64 z ∧ Two wr p1 27 (.int .i64 a1) (.int .i64 b1) ∧ Two wr p2 27 (.int .i64 a2) (.int .i64 b2) ∧ Below w.heap.size w wr) (fun i _ => (60 - intOf i).toNat)
  case atStart => exact ⟨-1, a, b, a, b, by omega, by omega, rfl, T3, T4, hb0⟩
  case round =>
    obtain ⟨z, a1, b1, a2, b2, hz1, hz2, rfl, t1, t2, hbr⟩ := hrel
    clear hb0 T3 T4
    by_cases h1 : z < (s.size : Int) + 2
    · by_cases h2 : z < 60
      · obtain ⟨a', b', er', h3, h4⟩ := where_both s hs z
        have H1 := Lib.hid h3
        have H2 := Lib.hid h4
        clear h3 h4
        have hpp : p1 ≠ p2 := by omega
        go_wp2_with (first
          | (go_at_call 14; (with_reducible refine (H1.out _ (HT.out.below hbr (Nat.le_refl _))).mono ?_); rintro e w1 ⟨rfl, hb1⟩; have u1 : Two w1 p1 27 (.int .i64 a1) (.int .i64 b1) := (hb1.block _ t1.lt).trans t1; have u2 : Two w1 p2 27 (.int .i64 a2) (.int .i64 b2) := (hb1.block _ t2.lt).trans t2; have d0 := u1.cell0; have d1 := u1.cell1; have f0 := u1.frozen0; have f1 := u1.frozen1)
          | (go_at_call 15; (with_reducible refine (H2.out _).mono ?_); rintro e w3 ⟨rfl, hb3⟩; clear d0 d1 f0 f1; have v1 : Two w3 p1 27 (.int .i64 a') (.int .i64 b') := (hb3.block _ ((u1.set0 (.int .i64 a')).set1 (.int .i64 b')).lt).trans ((u1.set0 (.int .i64 a')).set1 (.int .i64 b')); have v2 : Two w3 p2 27 (.int .i64 a2) (.int .i64 b2) := (hb3.block _ ((u2.other (by omega) 0 (.int .i64 a')).other (by omega) 1 (.int .i64 b')).lt).trans ((u2.other (by omega) 0 (.int .i64 a')).other (by omega) 1 (.int .i64 b')); have d0 := v1.cell0; have d1 := v1.cell1; have e0 := v2.cell0; have e1 := v2.cell1; have f0 := v2.frozen0; have f1 := v2.frozen1))
        have hb4 := (nx (((nx hbr hb1).setCell (p := ⟨p1, 0, none⟩) hsz1 (.int .i64 a')).setCell (p := ⟨p1, 1, none⟩) hsz1 (.int .i64 b')) hb3)
        exact ⟨⟨z + 1, a', b', a', b', by omega, by omega, rfl, (v1.other (by omega) _ _).other (by omega) _ _, (v2.set0 _).set1 _, (hb4.setCell (p := ⟨p2, 0, none⟩) (by simp only; omega) _).setCell (p := ⟨p2, 1, none⟩) (by simp only; omega) _⟩, by simp [intOf]; omega⟩
      · go_wp2_with (go_at_call 13; (with_reducible refine (HW.out _ (HT.out.below hbr (Nat.le_refl _))).mono ?_); rintro e w' ⟨rfl, hb'⟩)
        go_ret
        exact ⟨rfl, nx hbr hb'⟩
    · go_wp2_with (go_at_call 13; (with_reducible refine (HW.out _ (HT.out.below hbr (Nat.le_refl _))).mono ?_); rintro e w' ⟨rfl, hb'⟩)
      go_ret
      exact ⟨rfl, nx hbr hb'⟩
end Go.Proofs.YtebmjmohhpkonaaDoor

namespace Go.Proofs.YtebmjmohhpkonaaDoor
open Go.RowKit

set_option maxHeartbeats 8000000 in
theorem linesPlaces_any (s : ByteArray) (hs : s.size ≤ 1048576) (L C : Int) (w : World) (hT : Tabs w) :
    Calls Tryd.prog 5 #[.string s, .agg #[.int .i64 L, .int .i64 C]] w fun e w' => e = .returned (.bool true) ∧ Below w.heap.size w w' := by
  have HT := Lib.hid hT
  have HW := Lib.hid works_any
  obtain ⟨v, er, h1, h2⟩ := place_both s hs L C
  have H1 := Lib.hid h1
  have H2 := Lib.hid h2
  clear hT h1 h2
  have T0 := Two.new w 27 (.int .i64 L) (.int .i64 C)
  have hb0 : Below w.heap.size w (w.alloc (.cells #[.int .i64 L, .int .i64 C] 27)) := al (Below.refl _ _) _
  have d0 := T0.cell0
  have d1 := T0.cell1
  go_enter Tryd.func5, Tryd.ntmps5
  go_wp2_with (first
    | (go_at_call 16; (with_reducible refine (H1.out _ (HT.out.below hb0 (Nat.le_refl _))).mono ?_); rintro e w1 ⟨rfl, hb1⟩; have T1 : Two w1 w.heap.size 27 (.int .i64 L) (.int .i64 C) := (hb1.block _ T0.lt).trans T0; have e0 := T1.cell0; have e1 := T1.cell1; have hb2 := nx hb0 hb1)
    | (go_at_call 17; (with_reducible refine (H2.out _).mono ?_); rintro e w2 ⟨rfl, hb3⟩))
  have hb : Below w.heap.size w w2 := nx hb2 hb3
  clear T0 hb0 d0 d1 T1 e0 e1 hb1 hb2 hb3 H1 H2
  go_loopw [9] (fun i wr => ∃ z : Int, -1 ≤ z ∧ z ≤ 5 ∧ i = .int .i64 z ∧ Below w.heap.size w wr) (fun i _ => (5 - intOf i).toNat)
  case atStart => exact ⟨-1, by omega, by omega, rfl, hb⟩
  case round =>
    obtain ⟨z, hz1, hz2, rfl, hbr⟩ := hrel
    clear hb
    have hb := hbr
    by_cases h1 : z < 5
    · have hbo := hbr
      go_wp2_with fail
      clear hb hbr
      obtain ⟨wo, rfl⟩ : ∃ wo : World, wo = wr := ⟨_, rfl⟩
      go_loopw [10] (fun i wr => ∃ y : Int, -1 ≤ y ∧ y ≤ 9 ∧ i = .int .i64 y ∧ Below w.heap.size w wr) (fun i _ => (9 - intOf i).toNat)
      case atStart => exact ⟨-1, by omega, by omega, rfl, hbo⟩
      case round =>
        obtain ⟨y, hy1, hy2, rfl, hbr⟩ := hrel
        have hb := hbr
        by_cases h2 : y < 9
        · obtain ⟨v, er, h3, h4⟩ := place_both s hs z y
          have H1 := Lib.hid h3
          have H2 := Lib.hid h4
          clear h3 h4
          go_wp2_with (first
            | (go_at_call 16; (with_reducible refine (H1.out _ (HT.out.below hb (Nat.le_refl _))).mono ?_); rintro e w' ⟨rfl, hb'⟩; have hb := nx hb hb'; clear hb')
            | (go_at_call 17; (with_reducible refine (H2.out _).mono ?_); rintro e w' ⟨rfl, hb'⟩; have hb := nx hb hb'; clear hb')
            | (go_at_call 13; (with_reducible refine (HW.out _ (HT.out.below hb (Nat.le_refl _))).mono ?_); rintro e w' ⟨rfl, hb'⟩; have hb := nx hb hb'; clear hb'))
          exact ⟨⟨y + 1, by omega, by omega, rfl, hb⟩, by simp [intOf]; omega⟩
        · go_wp2_with fail
          exact ⟨⟨z + 1, by omega, by omega, rfl, hb⟩, by simp [intOf]; omega⟩
    ·
      go_wp2_with (first
        | (go_at_call 16; (with_reducible refine (H1.out _ (HT.out.below hb (Nat.le_refl _))).mono ?_); rintro e w' ⟨rfl, hb'⟩; have hb := nx hb hb'; clear hb')
        | (go_at_call 17; (with_reducible refine (H2.out _).mono ?_); rintro e w' ⟨rfl, hb'⟩; have hb := nx hb hb'; clear hb')
        | (go_at_call 13; (with_reducible refine (HW.out _ (HT.out.below hb (Nat.le_refl _))).mono ?_); rintro e w' ⟨rfl, hb'⟩; have hb := nx hb hb'; clear hb'))
      go_ret
      exact ⟨rfl, hb⟩
end Go.Proofs.YtebmjmohhpkonaaDoor

namespace Go.Proofs.YtebmjmohhpkonaaDoor
open Go.RowKit

/-- The program's End and the document's at a place: neither ends a line there, or both do, as wide. -/
theorem ends_both (s : ByteArray) (hs : s.size ≤ 140737488351232) (c : Int) :
    (∃ k : Nat, (∀ w, Tabs w → Calls Tryd.prog 11 #[.string s, .int .i64 c] w fun e w' => e = .returned (.tuple #[.int .i64 0, .bool false]) ∧ Below w.heap.size w w') ∧
      ∀ w, Calls Tryd.prog 12 #[.string s, .int .i64 c] w fun e w' => e = .returned (.tuple #[.int .i64 (k : Nat), .bool false]) ∧ Below w.heap.size w w') ∨
    (∃ k : Nat, (∀ w, Tabs w → Calls Tryd.prog 11 #[.string s, .int .i64 c] w fun e w' => e = .returned (.tuple #[.int .i64 (k : Nat), .bool true]) ∧ Below w.heap.size w w') ∧
      ∀ w, Calls Tryd.prog 12 #[.string s, .int .i64 c] w fun e w' => e = .returned (.tuple #[.int .i64 (k : Nat), .bool true]) ∧ Below w.heap.size w w') := by
  by_cases h : endZ (bs s) c = 0
  · refine .inl ⟨endRZ (bs s) c, fun w hT => ?_, fun w => ?_⟩
    · have := lend_any s hs c w hT
      rw [h] at this
      exact this
    · have := refend_any s hs c w
      rw [h] at this
      exact this
  · have h0 : ¬ c < 0 := fun e => h (endZ_neg _ _ e)
    have h1 : c < (bs s).length := by
      rcases Int.lt_or_le c ((bs s).length : Int) with h1 | h1
      · exact h1
      · exact absurd (endZ_out _ _ h1) h
    obtain ⟨i, rfl⟩ : ∃ i : Nat, c = i := ⟨c.toNat, by omega⟩
    have hz : nzB (endZ (bs s) (i : Nat)) = true := bne_iff_ne.2 h
    have he : endRZ (bs s) (i : Nat) = endZ (bs s) (i : Nat) := by rw [endRZ_nat (by omega), endZ_nat]; rw [endZ_nat] at h; exact endR_yes h
    refine .inr ⟨endZ (bs s) (i : Nat), fun w hT => ?_, fun w => ?_⟩
    · have := lend_any s hs (i : Nat) w hT
      rw [hz] at this
      exact this
    · have := refend_any s hs (i : Nat) w
      rw [hz, he] at this
      exact this

set_option maxHeartbeats 4000000 in
theorem linesEnds_any (s : ByteArray) (hs : s.size ≤ 140737488351232) (c : Int) (w : World) (hT : Tabs w) :
    Calls Tryd.prog 3 #[.string s, .int .i64 c] w fun e w' => e = .returned (.bool true) ∧ Below w.heap.size w w' := by
  have HT := Lib.hid hT
  have HW := Lib.hid works_any
  clear hT
  rcases ends_both s hs c with ⟨k, H1, H2⟩ | ⟨k, H1, H2⟩
  · have H1 := Lib.hid H1
    have H2 := Lib.hid H2
    go_enter Tryd.func3, Tryd.ntmps3
    have hb : Below w.heap.size w w := Below.refl _ _
    go_wp2_with (first
      | (go_at_call 11; (with_reducible refine (H1.out _ (HT.out.below hb (Nat.le_refl _))).mono ?_); rintro e w' ⟨rfl, hb'⟩; have hb := nx hb hb'; clear hb')
      | (go_at_call 12; (with_reducible refine (H2.out _).mono ?_); rintro e w' ⟨rfl, hb'⟩; have hb := nx hb hb'; clear hb'))
    go_loopw [9] (fun i wr => ∃ z : Int, -2 ≤ z ∧ z ≤ 300 ∧ i = .int .i64 z ∧ Below w.heap.size w wr) (fun i _ => (300 - intOf i).toNat)
    case atStart => exact ⟨-2, by omega, by omega, rfl, hb⟩
    case round =>
      obtain ⟨z, hz1, hz2, rfl, hbr⟩ := hrel
      clear hb H1 H2
      have hb := hbr
      by_cases h1 : z < (s.size : Int) + 3
      · by_cases h2 : z < 300
        · rcases ends_both s hs z with ⟨k, H1, H2⟩ | ⟨k, H1, H2⟩
          · have H1 := Lib.hid H1
            have H2 := Lib.hid H2
            go_wp2_with (first
              | (go_at_call 11; (with_reducible refine (H1.out _ (HT.out.below hb (Nat.le_refl _))).mono ?_); rintro e w' ⟨rfl, hb'⟩; have hb := nx hb hb'; clear hb')
              | (go_at_call 12; (with_reducible refine (H2.out _).mono ?_); rintro e w' ⟨rfl, hb'⟩; have hb := nx hb hb'; clear hb'))
            exact ⟨⟨z + 1, by omega, by omega, rfl, hb⟩, by simp [intOf]; omega⟩
          · have H1 := Lib.hid H1
            have H2 := Lib.hid H2
            have hkk : (((k : Nat) : Int) != (k : Int)) = false := by simp
            go_wp2_with (first
              | (go_at_call 11; (with_reducible refine (H1.out _ (HT.out.below hb (Nat.le_refl _))).mono ?_); rintro e w' ⟨rfl, hb'⟩; have hb := nx hb hb'; clear hb')
              | (go_at_call 12; (with_reducible refine (H2.out _).mono ?_); rintro e w' ⟨rfl, hb'⟩; have hb := nx hb hb'; clear hb'))
            exact ⟨⟨z + 1, by omega, by omega, rfl, hb⟩, by simp [intOf]; omega⟩
        · go_wp2_with (go_at_call 13; (with_reducible refine (HW.out _ (HT.out.below hb (Nat.le_refl _))).mono ?_); rintro e w' ⟨rfl, hb'⟩)
          go_ret
          exact ⟨rfl, nx hb hb'⟩
      · go_wp2_with (go_at_call 13; (with_reducible refine (HW.out _ (HT.out.below hb (Nat.le_refl _))).mono ?_); rintro e w' ⟨rfl, hb'⟩)
        go_ret
        exact ⟨rfl, nx hb hb'⟩
  · have H1 := Lib.hid H1
    have H2 := Lib.hid H2
    have hkk : (((k : Nat) : Int) != (k : Int)) = false := by simp
    go_enter Tryd.func3, Tryd.ntmps3
    have hb : Below w.heap.size w w := Below.refl _ _
    go_wp2_with (first
      | (go_at_call 11; (with_reducible refine (H1.out _ (HT.out.below hb (Nat.le_refl _))).mono ?_); rintro e w' ⟨rfl, hb'⟩; have hb := nx hb hb'; clear hb')
      | (go_at_call 12; (with_reducible refine (H2.out _).mono ?_); rintro e w' ⟨rfl, hb'⟩; have hb := nx hb hb'; clear hb'))
    go_loopw [9] (fun i wr => ∃ z : Int, -2 ≤ z ∧ z ≤ 300 ∧ i = .int .i64 z ∧ Below w.heap.size w wr) (fun i _ => (300 - intOf i).toNat)
    case atStart => exact ⟨-2, by omega, by omega, rfl, hb⟩
    case round =>
      obtain ⟨z, hz1, hz2, rfl, hbr⟩ := hrel
      clear hb H1 H2
      have hb := hbr
      by_cases h1 : z < (s.size : Int) + 3
      · by_cases h2 : z < 300
        · rcases ends_both s hs z with ⟨k, H1, H2⟩ | ⟨k, H1, H2⟩
          · have H1 := Lib.hid H1
            have H2 := Lib.hid H2
            go_wp2_with (first
              | (go_at_call 11; (with_reducible refine (H1.out _ (HT.out.below hb (Nat.le_refl _))).mono ?_); rintro e w' ⟨rfl, hb'⟩; have hb := nx hb hb'; clear hb')
              | (go_at_call 12; (with_reducible refine (H2.out _).mono ?_); rintro e w' ⟨rfl, hb'⟩; have hb := nx hb hb'; clear hb'))
            exact ⟨⟨z + 1, by omega, by omega, rfl, hb⟩, by simp [intOf]; omega⟩
          · have H1 := Lib.hid H1
            have H2 := Lib.hid H2
            have hkk : (((k : Nat) : Int) != (k : Int)) = false := by simp
            go_wp2_with (first
              | (go_at_call 11; (with_reducible refine (H1.out _ (HT.out.below hb (Nat.le_refl _))).mono ?_); rintro e w' ⟨rfl, hb'⟩; have hb := nx hb hb'; clear hb')
              | (go_at_call 12; (with_reducible refine (H2.out _).mono ?_); rintro e w' ⟨rfl, hb'⟩; have hb := nx hb hb'; clear hb'))
            exact ⟨⟨z + 1, by omega, by omega, rfl, hb⟩, by simp [intOf]; omega⟩
        · go_wp2_with (go_at_call 13; (with_reducible refine (HW.out _ (HT.out.below hb (Nat.le_refl _))).mono ?_); rintro e w' ⟨rfl, hb'⟩)
          go_ret
          exact ⟨rfl, nx hb hb'⟩
      · go_wp2_with (go_at_call 13; (with_reducible refine (HW.out _ (HT.out.below hb (Nat.le_refl _))).mono ?_); rintro e w' ⟨rfl, hb'⟩)
        go_ret
        exact ⟨rfl, nx hb hb'⟩
end Go.Proofs.YtebmjmohhpkonaaDoor

namespace Go.Proofs.YtebmjmohhpkonaaDoor
open Go.RowKit

set_option maxHeartbeats 2000000 in
theorem lbegins_any (s : ByteArray) (c : Nat) (hcs : c ≤ s.size) (b : Bool) (hb : b = true ↔ Border (bs s) c) (w : World) :
    Calls Tryd.prog 18 #[.string s, .int .i64 (c : Nat)] w fun e w' => e = .returned (.bool b) ∧ Below w.heap.size w w' := by
  obtain ⟨l, hl⟩ : ∃ l, bs s = l := ⟨_, rfl⟩
  have hlen : l.length = s.size := by rw [← hl, size_bs]
  rw [hl] at hb
  have HL := Lib.hid hl
  have HB := Lib.hid hb
  clear hl hb
  go_enter Tryd.func18, Tryd.ntmps18
  go_wp2_with fail
  go_loopw [5] (fun _ wr => ∃ done p, Cut l done p ∧ wr.heap[w.heap.size]? = some (.stringIter s p) ∧ Hid (∀ i, i < done.length → atN l i ≠ c) ∧ Below w.heap.size w wr) (fun _ wr => s.size - wr.iterPos w.heap.size)
  case atStart => exact ⟨[], 0, Cut.zero _, World.iter_heap _ _ _, Lib.hid (fun i h => absurd h (Nat.not_lt_zero _)), al (Below.refl _ _) _⟩
  case round =>
    obtain ⟨done, p, hc, hit, hne, hb⟩ := hrel
    by_cases hp : p < s.size
    · have hp' : p < l.length := by omega
      by_cases he : p = c
      · subst he
        have HV := Lib.hid (show true = b from (HB.out.2 ⟨_, hc⟩).symm)
        have hnx := fun ty => Lib.run_next_any_at (P := Tryd.prog) wr w.heap.size s p ty hit hp
        rw [decode_bs, HL.out] at hnx
        have hcs := hc.step hp'
        have hw := (wid_bounds (l.drop p)).1
        obtain ⟨d, hd⟩ : ∃ d, d = Lib.decodeL (l.drop p) := ⟨_, rfl⟩
        rw [← hd] at hnx hcs hw
        obtain ⟨r, n'⟩ := d
        simp only at hnx hw hcs
        have hbi : Below w.heap.size wr (wr.iterAt w.heap.size s (p + n')) := Lib.below_iterAt (Below.refl _ _) (Nat.le_refl _) s (p + n')
        have HIT := Lib.hid (Lib.iterAt_heap wr w.heap.size s p (p + n') hit)
        have HIP := Lib.hid (show wr.iterPos w.heap.size = p from iterPos_of hit)
        have hbV : Below w.heap.size w (wr.iterAt w.heap.size s (p + n')) := hb.trans hbi
        obtain ⟨V, hV⟩ : ∃ V, wr.iterAt w.heap.size s (p + n') = V := ⟨_, rfl⟩
        rw [hV] at hnx HIT hbV
        have HCS := Lib.hid hcs
        clear hd hc hit hcs hV hbi hb hp'
        go_wp2_with fail
        go_ret
        exact ⟨ret_bool HV.out, hbV⟩
      · have he1 : (((p : Nat) : Int) == (c : Int)) = false := beq_eq_false_iff_ne.2 (by omega)
        have HNE := Lib.hid (show ∀ x, ∀ i, i < (done ++ [x]).length → atN l i ≠ c from fun x i hi => by
          rw [List.length_append, List.length_singleton] at hi
          by_cases e : i = done.length
          · rw [e, hc.at']; exact he
          · exact hne.out i (by omega))
        have hnx := fun ty => Lib.run_next_any_at (P := Tryd.prog) wr w.heap.size s p ty hit hp
        rw [decode_bs, HL.out] at hnx
        have hcs := hc.step hp'
        have hw := (wid_bounds (l.drop p)).1
        obtain ⟨d, hd⟩ : ∃ d, d = Lib.decodeL (l.drop p) := ⟨_, rfl⟩
        rw [← hd] at hnx hcs hw
        obtain ⟨r, n'⟩ := d
        simp only at hnx hw hcs
        have hbi : Below w.heap.size wr (wr.iterAt w.heap.size s (p + n')) := Lib.below_iterAt (Below.refl _ _) (Nat.le_refl _) s (p + n')
        have HIT := Lib.hid (Lib.iterAt_heap wr w.heap.size s p (p + n') hit)
        have HIP := Lib.hid (show wr.iterPos w.heap.size = p from iterPos_of hit)
        have hbV : Below w.heap.size w (wr.iterAt w.heap.size s (p + n')) := hb.trans hbi
        obtain ⟨V, hV⟩ : ∃ V, wr.iterAt w.heap.size s (p + n') = V := ⟨_, rfl⟩
        rw [hV] at hnx HIT hbV
        have HCS := Lib.hid hcs
        clear hd hc hit hcs hV hbi hb hp' he
        go_wp2_with fail
        go_roundw
        case rel => exact ⟨_, _, HCS.out, HIT.out, Lib.hid (HNE.out _), hbV⟩
        case measure => rw [iterPos_of HIT.out, HIP.out]; omega
    · have hnx := fun ty => Lib.run_next_end_at (P := Tryd.prog) wr w.heap.size s p ty hit hp
      have hE := (hc.end' (by omega)).1
      have HC := Lib.hid (show b = decide (c = s.size) from by
        rw [Bool.eq_iff_iff, HB.out, decide_eq_true_eq]
        constructor
        · intro hbd
          obtain ⟨m, hm, hat, _⟩ := border_at hbd
          rcases Nat.lt_or_ge m (countN l) with h | h
          · exact absurd hat (hne.out m (by rw [hE]; exact h))
          · obtain rfl : m = countN l := by omega
            rw [atN_full] at hat
            omega
        · intro e
          rw [e, ← hlen]
          exact ⟨_, Cut.full l⟩)
      clear hE hc hit
      by_cases he : c = s.size
      · have he1 : (((c : Nat) : Int) == (s.size : Int)) = true := beq_iff_eq.2 (by omega)
        have HV := Lib.hid (show b = true by rw [HC.out]; exact decide_eq_true he)
        clear he
        go_wp2_with fail
        go_ret
        exact ⟨ret_bool HV.out.symm, hb⟩
      · have he1 : (((c : Nat) : Int) == (s.size : Int)) = false := beq_eq_false_iff_ne.2 (by omega)
        have HV := Lib.hid (show b = false by rw [HC.out]; exact decide_eq_false he)
        clear he
        go_wp2_with fail
        go_ret
        exact ⟨ret_bool HV.out.symm, hb⟩

set_option maxRecDepth 100000 in
set_option maxHeartbeats 8000000 in
theorem linesBack_any (s : ByteArray) (hs : s.size ≤ 140737488351232) (w : World) (hT : Tabs w) :
    Calls Tryd.prog 6 #[.string s] w fun e w' => e = .returned (.bool true) ∧ Below w.heap.size w w' := by
  have HT := Lib.hid hT
  have HWK := Lib.hid works_any
  clear hT
  go_enter Tryd.func6, Tryd.ntmps6
  go_wp2_with fail
  go_loopw [4] (fun i wr => ∃ c K0 C0 : Nat, i = .int .i64 (c : Nat) ∧ c ≤ s.size + 1 ∧ c ≤ 200 ∧ Two wr w.heap.size 27 (.int .i64 (K0 : Nat)) (.int .i64 (C0 : Nat)) ∧ Hid (∀ d, c ≤ d → d ≤ s.size → K0 < lnOf (bs s) d ∨ K0 = lnOf (bs s) d ∧ C0 ≤ colOf (bs s) d) ∧ Below w.heap.size w wr) (fun i _ => 200 - (intOf i).toNat)
  case atStart => exact ⟨0, 0, 0, rfl, Nat.zero_le _, by omega, Two.new _ _ _ _, Lib.hid (fun d _ _ => by omega), al (Below.refl _ _) _⟩
  case round =>
    obtain ⟨c, K0, C0, rfl, hc1, hc2, t0, hmono, hbr⟩ := hrel
    by_cases h1 : c ≤ s.size
    · by_cases h2 : c < 200
      · have hlen := size_bs s
        have HW := Lib.hid (fun w hT => lwhere_at s hs c h1 w hT)
        have hm := hmono.out c (Nat.le_refl _) h1
        have hnext : ∀ d, c + 1 ≤ d → d ≤ s.size → lnOf (bs s) c < lnOf (bs s) d ∨ lnOf (bs s) c = lnOf (bs s) d ∧ colOf (bs s) c ≤ colOf (bs s) d := fun d hd hd2 => where_mono (by omega) (by omega)
        have HPL := Lib.hid (fun w hT => lplace_any s hs (lnOf (bs s) c : Nat) (colOf (bs s) c : Nat) w hT)
        have htb := there_back (l := bs s) (c := c) (by omega)
        obtain ⟨K, hK⟩ : ∃ K, lnOf (bs s) c = K := ⟨_, rfl⟩
        obtain ⟨C, hC⟩ : ∃ K, colOf (bs s) c = K := ⟨_, rfl⟩
        rw [hK, hC] at HW hm HPL htb
        simp only [hK, hC] at hnext
        have HN := Lib.hid hnext
        have h1i : (c : Int) ≤ (s.size : Int) := by omega
        have h2i : (c : Int) < 200 := by omega
        rw [← size_bs] at htb
        clear hnext hK hC hmono hlen
        rcases hm with hm | ⟨hm, hm2⟩
        · have gK : decide (K < K0) = false := decide_eq_false (by omega)
          have gE : (((K : Nat) : Int) == (K0 : Int)) = false := beq_eq_false_iff_ne.2 (by omega)
          clear hm
          rcases htb with ⟨p, hp, hp1, hp2, hp3⟩ | ⟨hp, hp1, hp2, hp3, hp4⟩
          · rw [hp] at HPL
            have g1 : decide (c < p) = false := decide_eq_false (by omega)
            have g2 : decide ((p : Int) < (c : Int) - 3) = false := decide_eq_false (by omega)
            by_cases he : p = c
            · have g3 : (((p : Nat) : Int) != (c : Int)) = false := by simp; omega
              clear hp hp3 he
              go_wp2_with (first
                | (go_at_call 14; (with_reducible refine (HW.out _ (HT.out.below hbr (Nat.le_refl _))).mono ?_); rintro e w1 ⟨rfl, hb1⟩; have hbw := nx hbr hb1; have t1 : Two w1 w.heap.size 27 (.int .i64 (K0 : Nat)) (.int .i64 (C0 : Nat)) := (hb1.block _ t0.lt).trans t0; have d0 := t1.cell0; have d1 := t1.cell1; have f0 := t1.frozen0; have f1 := t1.frozen1; have hlt1 := t1.lt)
                | (go_at_call 16; (with_reducible refine (HPL.out _ (HT.out.below (al ((hbw.setCell (p := ⟨w.heap.size, 0, none⟩) (Nat.le_refl _) _).setCell (p := ⟨w.heap.size, 1, none⟩) (Nat.le_refl _) _) _) (Nat.le_refl _))).mono ?_); rintro e w2 ⟨rfl, hb2⟩; clear d0 d1 f0 f1 hlt1)
                | (go_at_call 18; (with_reducible refine (HBG.out _).mono ?_); rintro e w3 ⟨rfl, hb3⟩))
              have hbW := nx (al ((hbw.setCell (p := ⟨w.heap.size, 0, none⟩) (Nat.le_refl _) (.int .i64 (K : Nat))).setCell (p := ⟨w.heap.size, 1, none⟩) (Nat.le_refl _) (.int .i64 (C : Nat))) _) hb2
              have tW : Two w2 w.heap.size 27 (.int .i64 (K : Nat)) (.int .i64 (C : Nat)) := (hb2.block _ (Two.alloc ((t1.set0 (.int .i64 (K : Nat))).set1 (.int .i64 (C : Nat))) _).lt).trans (Two.alloc ((t1.set0 (.int .i64 (K : Nat))).set1 (.int .i64 (C : Nat))) _)
              exact ⟨⟨c + 1, K, C, by go_num, by omega, by omega, tW, HN, hbW⟩, by simp [intOf]; omega⟩
            · have g3 : (((p : Nat) : Int) != (c : Int)) = true := bne_iff_ne.2 (by omega)
              have HBG := Lib.hid (fun w => lbegins_any s c h1 false (by constructor; intro h; cases h; intro h; exact absurd (hp3.2 h) he) w)
              clear hp hp3 he
              go_wp2_with (first
                | (go_at_call 14; (with_reducible refine (HW.out _ (HT.out.below hbr (Nat.le_refl _))).mono ?_); rintro e w1 ⟨rfl, hb1⟩; have hbw := nx hbr hb1; have t1 : Two w1 w.heap.size 27 (.int .i64 (K0 : Nat)) (.int .i64 (C0 : Nat)) := (hb1.block _ t0.lt).trans t0; have d0 := t1.cell0; have d1 := t1.cell1; have f0 := t1.frozen0; have f1 := t1.frozen1; have hlt1 := t1.lt)
                | (go_at_call 16; (with_reducible refine (HPL.out _ (HT.out.below (al ((hbw.setCell (p := ⟨w.heap.size, 0, none⟩) (Nat.le_refl _) _).setCell (p := ⟨w.heap.size, 1, none⟩) (Nat.le_refl _) _) _) (Nat.le_refl _))).mono ?_); rintro e w2 ⟨rfl, hb2⟩; clear d0 d1 f0 f1 hlt1)
                | (go_at_call 18; (with_reducible refine (HBG.out _).mono ?_); rintro e w3 ⟨rfl, hb3⟩))
              have hbW := nx (al ((hbw.setCell (p := ⟨w.heap.size, 0, none⟩) (Nat.le_refl _) (.int .i64 (K : Nat))).setCell (p := ⟨w.heap.size, 1, none⟩) (Nat.le_refl _) (.int .i64 (C : Nat))) _) hb2
              have tW : Two w2 w.heap.size 27 (.int .i64 (K : Nat)) (.int .i64 (C : Nat)) := (hb2.block _ (Two.alloc ((t1.set0 (.int .i64 (K : Nat))).set1 (.int .i64 (C : Nat))) _).lt).trans (Two.alloc ((t1.set0 (.int .i64 (K : Nat))).set1 (.int .i64 (C : Nat))) _)
              exact ⟨⟨c + 1, K, C, by go_num, by omega, by omega, (hb3.block _ tW.lt).trans tW, HN, nx hbW hb3⟩, by simp [intOf]; omega⟩
          · rw [hp] at HPL
            obtain ⟨j, hj⟩ : ∃ j : Nat, j = c - 1 := ⟨_, rfl⟩
            rw [← hj] at hp3
            have hcj : (c : Int) - 1 = (j : Int) := by omega
            have hj0 : (0 : Int) ≤ (j : Int) := by omega
            have hjs : j < s.size := by omega
            have hjz : (j : Int) < (s.size : Int) := by omega
            have hcs : c < s.size := by omega
            have hcz : (c : Int) < (s.size : Int) := by omega
            have hc0 : (0 : Int) ≤ (c : Int) := by omega
            have hcz' : (((c : Nat) : Int) == 0) = false := beq_eq_false_iff_ne.2 (by omega)
            have hcd : decide (s.size ≤ c) = false := decide_eq_false (by omega)
            have gj := get_bs s j hjs
            have gc := get_bs s c hcs
            rw [hp3] at gj
            rw [hp4] at gc
            clear hp hp1 hp2 hp3 hp4 hj
            go_wp2_with (first
              | (go_at_call 14; (with_reducible refine (HW.out _ (HT.out.below hbr (Nat.le_refl _))).mono ?_); rintro e w1 ⟨rfl, hb1⟩; have hbw := nx hbr hb1; have t1 : Two w1 w.heap.size 27 (.int .i64 (K0 : Nat)) (.int .i64 (C0 : Nat)) := (hb1.block _ t0.lt).trans t0; have d0 := t1.cell0; have d1 := t1.cell1; have f0 := t1.frozen0; have f1 := t1.frozen1; have hlt1 := t1.lt)
              | (go_at_call 16; (with_reducible refine (HPL.out _ (HT.out.below (al ((hbw.setCell (p := ⟨w.heap.size, 0, none⟩) (Nat.le_refl _) _).setCell (p := ⟨w.heap.size, 1, none⟩) (Nat.le_refl _) _) _) (Nat.le_refl _))).mono ?_); rintro e w2 ⟨rfl, hb2⟩; clear d0 d1 f0 f1 hlt1)
              | (go_at_call 18; (with_reducible refine (HBG.out _).mono ?_); rintro e w3 ⟨rfl, hb3⟩))
            have hbW := nx (al ((hbw.setCell (p := ⟨w.heap.size, 0, none⟩) (Nat.le_refl _) (.int .i64 (K : Nat))).setCell (p := ⟨w.heap.size, 1, none⟩) (Nat.le_refl _) (.int .i64 (C : Nat))) _) hb2
            have tW : Two w2 w.heap.size 27 (.int .i64 (K : Nat)) (.int .i64 (C : Nat)) := (hb2.block _ (Two.alloc ((t1.set0 (.int .i64 (K : Nat))).set1 (.int .i64 (C : Nat))) _).lt).trans (Two.alloc ((t1.set0 (.int .i64 (K : Nat))).set1 (.int .i64 (C : Nat))) _)
            exact ⟨⟨c + 1, K, C, by go_num, by omega, by omega, tW, HN, hbW⟩, by simp [intOf]; omega⟩
        · have gK : decide (K < K0) = false := decide_eq_false (by omega)
          have gE : (((K : Nat) : Int) == (K0 : Int)) = true := beq_iff_eq.2 (by omega)
          have gC : decide (C < C0) = false := decide_eq_false (by omega)
          clear hm hm2
          rcases htb with ⟨p, hp, hp1, hp2, hp3⟩ | ⟨hp, hp1, hp2, hp3, hp4⟩
          · rw [hp] at HPL
            have g1 : decide (c < p) = false := decide_eq_false (by omega)
            have g2 : decide ((p : Int) < (c : Int) - 3) = false := decide_eq_false (by omega)
            by_cases he : p = c
            · have g3 : (((p : Nat) : Int) != (c : Int)) = false := by simp; omega
              clear hp hp3 he
              go_wp2_with (first
                | (go_at_call 14; (with_reducible refine (HW.out _ (HT.out.below hbr (Nat.le_refl _))).mono ?_); rintro e w1 ⟨rfl, hb1⟩; have hbw := nx hbr hb1; have t1 : Two w1 w.heap.size 27 (.int .i64 (K0 : Nat)) (.int .i64 (C0 : Nat)) := (hb1.block _ t0.lt).trans t0; have d0 := t1.cell0; have d1 := t1.cell1; have f0 := t1.frozen0; have f1 := t1.frozen1; have hlt1 := t1.lt)
                | (go_at_call 16; (with_reducible refine (HPL.out _ (HT.out.below (al ((hbw.setCell (p := ⟨w.heap.size, 0, none⟩) (Nat.le_refl _) _).setCell (p := ⟨w.heap.size, 1, none⟩) (Nat.le_refl _) _) _) (Nat.le_refl _))).mono ?_); rintro e w2 ⟨rfl, hb2⟩; clear d0 d1 f0 f1 hlt1)
                | (go_at_call 18; (with_reducible refine (HBG.out _).mono ?_); rintro e w3 ⟨rfl, hb3⟩))
              have hbW := nx (al ((hbw.setCell (p := ⟨w.heap.size, 0, none⟩) (Nat.le_refl _) (.int .i64 (K : Nat))).setCell (p := ⟨w.heap.size, 1, none⟩) (Nat.le_refl _) (.int .i64 (C : Nat))) _) hb2
              have tW : Two w2 w.heap.size 27 (.int .i64 (K : Nat)) (.int .i64 (C : Nat)) := (hb2.block _ (Two.alloc ((t1.set0 (.int .i64 (K : Nat))).set1 (.int .i64 (C : Nat))) _).lt).trans (Two.alloc ((t1.set0 (.int .i64 (K : Nat))).set1 (.int .i64 (C : Nat))) _)
              exact ⟨⟨c + 1, K, C, by go_num, by omega, by omega, tW, HN, hbW⟩, by simp [intOf]; omega⟩
            · have g3 : (((p : Nat) : Int) != (c : Int)) = true := bne_iff_ne.2 (by omega)
              have HBG := Lib.hid (fun w => lbegins_any s c h1 false (by constructor; intro h; cases h; intro h; exact absurd (hp3.2 h) he) w)
              clear hp hp3 he
              go_wp2_with (first
                | (go_at_call 14; (with_reducible refine (HW.out _ (HT.out.below hbr (Nat.le_refl _))).mono ?_); rintro e w1 ⟨rfl, hb1⟩; have hbw := nx hbr hb1; have t1 : Two w1 w.heap.size 27 (.int .i64 (K0 : Nat)) (.int .i64 (C0 : Nat)) := (hb1.block _ t0.lt).trans t0; have d0 := t1.cell0; have d1 := t1.cell1; have f0 := t1.frozen0; have f1 := t1.frozen1; have hlt1 := t1.lt)
                | (go_at_call 16; (with_reducible refine (HPL.out _ (HT.out.below (al ((hbw.setCell (p := ⟨w.heap.size, 0, none⟩) (Nat.le_refl _) _).setCell (p := ⟨w.heap.size, 1, none⟩) (Nat.le_refl _) _) _) (Nat.le_refl _))).mono ?_); rintro e w2 ⟨rfl, hb2⟩; clear d0 d1 f0 f1 hlt1)
                | (go_at_call 18; (with_reducible refine (HBG.out _).mono ?_); rintro e w3 ⟨rfl, hb3⟩))
              have hbW := nx (al ((hbw.setCell (p := ⟨w.heap.size, 0, none⟩) (Nat.le_refl _) (.int .i64 (K : Nat))).setCell (p := ⟨w.heap.size, 1, none⟩) (Nat.le_refl _) (.int .i64 (C : Nat))) _) hb2
              have tW : Two w2 w.heap.size 27 (.int .i64 (K : Nat)) (.int .i64 (C : Nat)) := (hb2.block _ (Two.alloc ((t1.set0 (.int .i64 (K : Nat))).set1 (.int .i64 (C : Nat))) _).lt).trans (Two.alloc ((t1.set0 (.int .i64 (K : Nat))).set1 (.int .i64 (C : Nat))) _)
              exact ⟨⟨c + 1, K, C, by go_num, by omega, by omega, (hb3.block _ tW.lt).trans tW, HN, nx hbW hb3⟩, by simp [intOf]; omega⟩
          · rw [hp] at HPL
            obtain ⟨j, hj⟩ : ∃ j : Nat, j = c - 1 := ⟨_, rfl⟩
            rw [← hj] at hp3
            have hcj : (c : Int) - 1 = (j : Int) := by omega
            have hj0 : (0 : Int) ≤ (j : Int) := by omega
            have hjs : j < s.size := by omega
            have hjz : (j : Int) < (s.size : Int) := by omega
            have hcs : c < s.size := by omega
            have hcz : (c : Int) < (s.size : Int) := by omega
            have hc0 : (0 : Int) ≤ (c : Int) := by omega
            have hcz' : (((c : Nat) : Int) == 0) = false := beq_eq_false_iff_ne.2 (by omega)
            have hcd : decide (s.size ≤ c) = false := decide_eq_false (by omega)
            have gj := get_bs s j hjs
            have gc := get_bs s c hcs
            rw [hp3] at gj
            rw [hp4] at gc
            clear hp hp1 hp2 hp3 hp4 hj
            go_wp2_with (first
              | (go_at_call 14; (with_reducible refine (HW.out _ (HT.out.below hbr (Nat.le_refl _))).mono ?_); rintro e w1 ⟨rfl, hb1⟩; have hbw := nx hbr hb1; have t1 : Two w1 w.heap.size 27 (.int .i64 (K0 : Nat)) (.int .i64 (C0 : Nat)) := (hb1.block _ t0.lt).trans t0; have d0 := t1.cell0; have d1 := t1.cell1; have f0 := t1.frozen0; have f1 := t1.frozen1; have hlt1 := t1.lt)
              | (go_at_call 16; (with_reducible refine (HPL.out _ (HT.out.below (al ((hbw.setCell (p := ⟨w.heap.size, 0, none⟩) (Nat.le_refl _) _).setCell (p := ⟨w.heap.size, 1, none⟩) (Nat.le_refl _) _) _) (Nat.le_refl _))).mono ?_); rintro e w2 ⟨rfl, hb2⟩; clear d0 d1 f0 f1 hlt1)
              | (go_at_call 18; (with_reducible refine (HBG.out _).mono ?_); rintro e w3 ⟨rfl, hb3⟩))
            have hbW := nx (al ((hbw.setCell (p := ⟨w.heap.size, 0, none⟩) (Nat.le_refl _) (.int .i64 (K : Nat))).setCell (p := ⟨w.heap.size, 1, none⟩) (Nat.le_refl _) (.int .i64 (C : Nat))) _) hb2
            have tW : Two w2 w.heap.size 27 (.int .i64 (K : Nat)) (.int .i64 (C : Nat)) := (hb2.block _ (Two.alloc ((t1.set0 (.int .i64 (K : Nat))).set1 (.int .i64 (C : Nat))) _).lt).trans (Two.alloc ((t1.set0 (.int .i64 (K : Nat))).set1 (.int .i64 (C : Nat))) _)
            exact ⟨⟨c + 1, K, C, by go_num, by omega, by omega, tW, HN, hbW⟩, by simp [intOf]; omega⟩
      · have h1i : (c : Int) ≤ (s.size : Int) := by omega
        have h2i : decide ((c : Int) < 200) = false := decide_eq_false (by omega)
        have HO := Lib.hid (fun w => lwhere_out s hs ((s.size : Int) + 1) (.inr (by omega)) w)
        go_wp2_with (first
          | (go_at_call 14; (with_reducible refine (HO.out _).mono ?_); rintro e w1 ⟨rfl, hb1⟩; have hbw := nx hbr hb1)
          | (go_at_call 13; (with_reducible refine (HWK.out _ (HT.out.below (al hbw _) (Nat.le_refl _))).mono ?_); rintro e w2 ⟨rfl, hb2⟩))
        go_ret
        exact ⟨rfl, nx (al hbw _) hb2⟩
    · have h1i : decide (c ≤ s.size) = false := decide_eq_false h1
      have HO := Lib.hid (fun w => lwhere_out s hs ((s.size : Int) + 1) (.inr (by omega)) w)
      go_wp2_with (first
        | (go_at_call 14; (with_reducible refine (HO.out _).mono ?_); rintro e w1 ⟨rfl, hb1⟩; have hbw := nx hbr hb1)
        | (go_at_call 13; (with_reducible refine (HWK.out _ (HT.out.below (al hbw _) (Nat.le_refl _))).mono ?_); rintro e w2 ⟨rfl, hb2⟩))
      go_ret
      exact ⟨rfl, nx (al hbw _) hb2⟩
end Go.Proofs.YtebmjmohhpkonaaDoor

namespace Go.Proofs.YtebmjmohhpkonaaDoor
open Go.RowKit

def knownL : List ByteArray := [⟨#[]⟩, ⟨#[97]⟩, ⟨#[97, 10]⟩, ⟨#[13, 13, 10]⟩, ⟨#[97, 98, 10, 13, 99]⟩, ⟨#[195, 169, 13, 10, 255, 120]⟩, ⟨#[226, 128, 168]⟩, ⟨#[226, 128]⟩, ⟨#[194, 133]⟩, ⟨#[194, 13, 10, 226, 128, 169, 133]⟩, ⟨#[10, 13, 10, 13]⟩, ⟨#[226, 128, 168, 226, 128, 169, 194, 133, 120]⟩, ⟨#[226, 128, 168, 128, 168]⟩, ⟨#[12, 11, 28]⟩]
theorem known_size : ∀ t ∈ knownL, t.size ≤ 1048576 := by decide
theorem known_get (j : Nat) (h : j < 14) : ∃ t, knownL[j]? = some t ∧ t.size ≤ 1048576 := by
  have hj : j < knownL.length := h
  exact ⟨_, List.getElem?_eq_getElem hj, known_size _ (List.getElem_mem hj)⟩
set_option maxRecDepth 100000 in
set_option maxHeartbeats 8000000 in
theorem linesKnown_any (w : World) (hT : Tabs w) :
    Calls Tryd.prog 10 #[] w fun e w' => e = .returned (.bool true) ∧ Below w.heap.size w w' := by
  have HT := Lib.hid hT
  have HW := Lib.hid works_any
  have HC0 : Hid (∀ j t, knownL[j]? = some t → (w.alloc (.cells (knownL.map Value.string).toArray 9)).cell? ⟨w.heap.size, j, none⟩ = some (.string t)) := Lib.hid fun j t h => by
    have := cells_new w (knownL.map Value.string) 9 j (.string t) (by rw [List.getElem?_map, h]; rfl)
    rwa [Addr.add_lit, Nat.zero_add] at this
  have hb0 : Below w.heap.size w (w.alloc (.cells (knownL.map Value.string).toArray 9)) := al (Below.refl _ _) _
  simp only [knownL, List.map_cons, List.map_nil] at hb0
  have HC := Lib.hid HC0.out
  simp only [knownL, List.map_cons, List.map_nil] at HC
  clear HC0
  clear hT
  go_enter Tryd.func10, Tryd.ntmps10
  go_wp2_with fail
  obtain ⟨w0, hw0⟩ : ∃ w0, w.alloc (.cells [Value.string ⟨#[]⟩, Value.string ⟨#[97]⟩, Value.string ⟨#[97, 10]⟩, Value.string ⟨#[13, 13, 10]⟩, Value.string ⟨#[97, 98, 10, 13, 99]⟩, Value.string ⟨#[195, 169, 13, 10, 255, 120]⟩, Value.string ⟨#[226, 128, 168]⟩, Value.string ⟨#[226, 128]⟩, Value.string ⟨#[194, 133]⟩, Value.string ⟨#[194, 13, 10, 226, 128, 169, 133]⟩, Value.string ⟨#[10, 13, 10, 13]⟩, Value.string ⟨#[226, 128, 168, 226, 128, 169, 194, 133, 120]⟩, Value.string ⟨#[226, 128, 168, 128, 168]⟩, Value.string ⟨#[12, 11, 28]⟩].toArray 9) = w0 := ⟨_, rfl⟩
  rw [hw0] at hb0 HC
  rw [hw0]
  clear hw0
  go_loopw [2] (fun i wr => ∃ k : Nat, i = .int .i64 (k : Nat) ∧ k ≤ 14 ∧ Below w0.heap.size w0 wr) (fun i _ => 14 - (intOf i).toNat)
  case atStart => exact ⟨0, rfl, by omega, Below.refl _ _⟩
  case round =>
    obtain ⟨k, rfl, hk, hb⟩ := hrel
    have hbw := nx hb0 hb
    by_cases h : k < 14
    · have hki : (k : Int) < 14 := by omega
      have hk0 : (0 : Int) ≤ (k : Int) := by omega
      obtain ⟨t, ht, hts⟩ := known_get k h
      have d0 := cellKeep (HC.out k t ht) hb
      have H1 := Lib.hid (fun c w hT => linesEnds_any t (by omega) c w hT)
      have H2 := Lib.hid (fun w hT => linesAll_any t hts 1 (by omega) w hT)
      have H3 := Lib.hid (fun c w hT => linesWheres_any t hts c w hT)
      have H4 := Lib.hid (fun a b w hT => linesPlaces_any t hts a b w hT)
      have H5 := Lib.hid (fun w hT => linesWhole_any t hts w hT)
      have H6 := Lib.hid (fun w hT => linesBack_any t (by omega) w hT)
      clear ht hts
      go_wp2_with (first
        | (go_at_call 3; (with_reducible refine (H1.out _ _ (HT.out.below hbw (Nat.le_refl _))).mono ?_); rintro e w1 ⟨rfl, hb1⟩; have hB1 := nx hb hb1; have hW1 := nx hbw hb1; have d1 := cellKeep d0 hb1)
        | (go_at_call 7; (with_reducible refine (H2.out _ (HT.out.below hW1 (Nat.le_refl _))).mono ?_); rintro e w2 ⟨rfl, hb2⟩; have hB2 := nx hB1 hb2; have hW2 := nx hW1 hb2; have d2 := cellKeep d1 hb2)
        | (go_at_call 4; (with_reducible refine (H3.out _ _ (HT.out.below hW2 (Nat.le_refl _))).mono ?_); rintro e w3 ⟨rfl, hb3⟩; have hB3 := nx hB2 hb3; have hW3 := nx hW2 hb3; have d3 := cellKeep d2 hb3)
        | (go_at_call 5; (with_reducible refine (H4.out _ _ _ (HT.out.below hW3 (Nat.le_refl _))).mono ?_); rintro e w4 ⟨rfl, hb4⟩; have hB4 := nx hB3 hb4; have hW4 := nx hW3 hb4; have d4 := cellKeep d3 hb4)
        | (go_at_call 8; (with_reducible refine (H5.out _ (HT.out.below hW4 (Nat.le_refl _))).mono ?_); rintro e w5 ⟨rfl, hb5⟩; have hB5 := nx hB4 hb5; have hW5 := nx hW4 hb5; have d5 := cellKeep d4 hb5)
        | (go_at_call 6; (with_reducible refine (H6.out _ (HT.out.below hW5 (Nat.le_refl _))).mono ?_); rintro e w6 ⟨rfl, hb6⟩; have hB6 := nx hB5 hb6))
      exact ⟨⟨k + 1, by go_num, by omega, hB6⟩, by simp [intOf]; omega⟩
    · obtain rfl : k = 14 := by omega
      rw [show ((14 : Nat) : Int) = 14 from rfl]
      go_wp2_with (go_at_call 13; (with_reducible refine (HW.out _ (HT.out.below hbw (Nat.le_refl _))).mono ?_); rintro e wg ⟨rfl, hbg⟩)
      go_ret
      exact ⟨rfl, nx hbw hbg⟩
end Go.Proofs.YtebmjmohhpkonaaDoor

namespace Go.Proofs.YtebmjmohhpkonaaDoor.linesKnown
open Go.ChangeShapes Go.WideShapes Go.ChangeAt Go.RowKit
open Go.ChangeMaps (open_string shut_string)
set_option linter.unusedVariables false

theorem contract (H : Type) (enc : TypeId × Value → H) (W : World) (base : Nat) (args : Array Value) (ds gs : List (DataW H)) (before : List MemPlace)
    (hval : ∀ (j : Nat) t v, Tryd.f10.params[j]? = some t → args[j]? = some v → Value.okWide Tryd.prog W .any base t v)
    (hW : DataW.Whole enc Tryd.prog Tryd.f10.params.toList Rows.linesKnownSpec.vars false W args.toList ds gs before)
    (hsz0 : (DataW.weightsEach Tryd.prog (Tryd.f10.params.toList ++ Rows.linesKnownSpec.plain.varTypes Tryd.prog) (ds ++ gs)).all (· ≤ reachBytes) = true)
    (hL : laidMetH Tryd.prog laidList W) :
    Calls Tryd.prog 10 args W fun e W' => ∃ v, e = .returned v ∧ Rows.linesKnownSpec.post enc Tryd.prog Tryd.f10 false true false false W args v W' := by
  have hT := tabs_of_laid hL
  have hW' := hW
  obtain ⟨p, q, hA0, hV, rfl, hfz, hnd⟩ := hW
  have hA : DataW.TrodAll enc Tryd.prog W 0 (fun _ => true) true Tryd.f10.params.toList args.toList ds p := hA0
  have hsz := hsz0
  rw [Tryd.params10] at hA hval hsz
  obtain ⟨hargs, rfl, rfl⟩ := trodAll_nil hA
  obtain rfl : args = #[] := by cases args; simp_all
  obtain ⟨rfl, rfl⟩ := trodVars_none hV
  refine (linesKnown_any  W hT).mono fun e W' ⟨he, bel⟩ => ?_
  subst he
  exact ⟨_, rfl, _, _, _, [], _, [], hW', trodAll_mk1 (shut_bool Tryd.underlying4 _), trodAll_mk0, rfl, bel.frame _, fun h => by cases h⟩

theorem laid_met (os : Os) : laidMet Tryd.prog Rows.linesKnownRow.laid ((laidWorld os).forCall (fun _ _ => 0) ⟨#[], #[], []⟩).memory :=
  laidMet_of_run' 8 (by kernel_rfl) (by kernel_rfl)
theorem reads (os : Os) {H : Type} (enc : TypeId × Value → H) : ∃ places, DataW.whole enc Tryd.prog ((laidWorld os).forCall (fun _ _ => 0) ⟨#[], #[], []⟩).memory Tryd.f10.params.toList Rows.linesKnownSpec.vars false (#[] : Array Value).toList 8 = some ([], [], places) :=
  ⟨[], by kernel_rfl⟩

set_option maxRecDepth 100000 in
theorem lifted (os : Os) (started : os.Started) (H : Type) (enc : TypeId × Value → H) (F : Stop.Interp) :
    ReturnsInHanded {} Tryd.checked os 10 .any ((OpenSpec.ofChange Rows.linesKnownSpec).preRow enc Tryd.prog Tryd.f10 Rows.linesKnownRow.domain false Rows.linesKnownRow.laid) (((OpenSpec.ofChange Rows.linesKnownSpec).at F).post enc Tryd.prog Tryd.f10 false true false false) := by
  obtain ⟨places, hx⟩ := reads os enc
  refine returnsInHanded_of_row (C := Tryd.checked) (s := OpenSpec.ofChange Rows.linesKnownSpec) own started (by kernel_rfl) Tryd.func10
    (witness_row_at (enc := enc) (C := Tryd.checked) false (laidWorld os) #[] rfl (by kernel_rfl) (by kernel_rfl) (by kernel_rfl)
      (OpenSpec.preRow_of_cond 8 hx (by kernel_rfl) (fun k hk => by cases hk) (by kernel_rfl) (laid_met os))) ?_
  intro W base args ds gs before hval hW _ hcond hsz hL _ _
  exact contract H enc W base args ds gs before hval hW hsz hL

theorem said : Rows.LinesKnownSaid :=
  OpenClaim.holds_of_cond 10 Tryd.f10 rfl rfl rfl rfl rfl rfl rfl ⟨rfl, rfl, rfl, rfl, rfl⟩ rfl rfl rfl rfl rfl (by kernel_rfl) Tryd.func10 (by kernel_rfl)
    (of_decide_eq_true (by kernel_rfl)) (by unfold Func.isWrapper; first | (rw [if_pos (by decide +kernel)]; kernel_rfl) | (rw [if_neg (by decide +kernel)]; exact ⟨rfl, rfl⟩))
    (fun os started H enc _ F => by rw [OpenClaim.pre_eq_preRow]; exact lifted os started H enc F)

theorem plain (f : FuncId) (fn : Func) (hf : Tryd.pinned.checked.prog.funcNamed "vellum/vellumlaw04.LinesKnown" = some f) (hfn : Tryd.pinned.checked.prog.funcs[f]? = some fn) :
    false = Tryd.pinned.checked.prog.looks [] ∧ ∀ (j : Nat) t, fn.params[j]? = some t → Tryd.pinned.checked.prog.wantsStandIn t = false := by
  obtain rfl : f = 10 := Option.some.inj ((show Tryd.prog.funcNamed "vellum/vellumlaw04.LinesKnown" = some 10 by kernel_rfl).symm.trans hf) |>.symm
  obtain rfl : fn = Tryd.f10 := (Option.some.inj (Tryd.func10.symm.trans hfn)).symm
  refine ⟨by kernel_rfl, fun j t ht => ?_⟩
  rw [Tryd.params10] at ht
  have hm := Array.mem_of_getElem? ht
  simp at hm

theorem card : Rows.LinesKnownCardSaid :=
  Claim7.holds_tied_plain_at .later [] _ _ _ _ said (fun _ h => by cases h) (by kernel_rfl) (fun _ h => by cases h) linesKnown_row_tie rfl ⟨rfl, rfl⟩ (by kernel_rfl) rfl plain (by kernel_rfl)
#print axioms card
end Go.Proofs.YtebmjmohhpkonaaDoor.linesKnown
