/-
  The document's Place: its contract.
-/
import Derived.Test.YtebmjmohhpkonaaDoorLRefAll
import Derived.Test.YtebmjmohhpkonaaDoorLPlace
namespace Go.Proofs.YtebmjmohhpkonaaDoor
open Go.RowKit

set_option maxHeartbeats 4000000 in
theorem refplace_any (s : ByteArray) (hs : s.size ≤ 1048576) (L C : Int) (w : World) :
    Calls Tryd.prog 17 #[.string s, .agg #[.int .i64 L, .int .i64 C]] w fun e w' => e = .returned (.tuple #[.int .i64 (placeZ (bs s) L C).1, .int .i64 (placeZ (bs s) L C).2]) ∧ Below w.heap.size w w' := by
  have HA := Lib.hid (fun w => refall_at s hs w)
  have hNl := lnN_le (bs s)
  rw [← size_bs] at hNl
  have T0 := Two.new w 27 (.int .i64 L) (.int .i64 C)
  have d0 := T0.cell0
  by_cases hL : L < 0 ∨ (lnN (bs s) : Int) ≤ L
  · rw [placeZ_out hL]
    obtain ⟨N, hN⟩ : ∃ N, lnN (bs s) = N := ⟨_, rfl⟩
    rw [hN] at HA hNl hL
    clear hN
    rcases hL with h0 | h1
    · go_enter Tryd.func17, Tryd.ntmps17
      go_wp2_with (first
        | (go_at_call 19; (with_reducible refine (HA.out _).mono ?_); rintro e w2 ⟨ao, ca, rfl, hx2, hb2⟩; have T2 : Two w2 w.heap.size 27 (.int .i64 L) (.int .i64 C) := (hb2.block _ T0.lt).trans T0; have d2 := T2.cell0; clear hx2))
      go_ret2
      exact ⟨rfl, nx (al (Below.refl _ _) _) hb2⟩
    · have h0 : ¬ L < 0 := by omega
      go_enter Tryd.func17, Tryd.ntmps17
      go_wp2_with (first
        | (go_at_call 19; (with_reducible refine (HA.out _).mono ?_); rintro e w2 ⟨ao, ca, rfl, hx2, hb2⟩; have T2 : Two w2 w.heap.size 27 (.int .i64 L) (.int .i64 C) := (hb2.block _ T0.lt).trans T0; have d2 := T2.cell0; clear hx2))
      go_ret2
      exact ⟨rfl, nx (al (Below.refl _ _) _) hb2⟩
  · obtain ⟨k, rfl⟩ : ∃ k : Nat, L = (k : Nat) := ⟨L.toNat, by omega⟩
    have hk : k < lnN (bs s) := by omega
    obtain ⟨g1, g2, g3, -⟩ := ln_get (bs s) k hk
    rw [← size_bs] at g2
    have hin := fun j (hj : j ≤ countN (pieceL (bs s) (lnA (bs s) k) (lnB (bs s) k))) => placeZ_in hk hj
    have hout := fun h => placeZ_col (l := bs s) (k := k) (C := C) h
    have hPz : bs (s.extract (lnA (bs s) k) (lnB (bs s) k)) = pieceL (bs s) (lnA (bs s) k) (lnB (bs s) k) := bs_extract s _ _
    have hpl : (pieceL (bs s) (lnA (bs s) k) (lnB (bs s) k)).length = lnB (bs s) k - lnA (bs s) k := by unfold pieceL; rw [List.length_take, List.length_drop, ← size_bs]; omega
    have hlk : ∀ w' ao, LinesAt w' ao (bs s) → ∃ g, ao = some ⟨g, 0, none⟩ ∧ w'.cell? ⟨g, k * 3, none⟩ = some (.int .i64 (lnA (bs s) k : Nat)) ∧ w'.cell? ⟨g, k * 3 + 1, none⟩ = some (.int .i64 (lnB (bs s) k : Nat)) := fun w' ao h => by
      obtain ⟨g, e, h0, h1, _⟩ := h k hk
      exact ⟨g, e, h0, h1⟩
    have HLK := Lib.hid hlk
    obtain ⟨l, hl⟩ : ∃ l, bs s = l := ⟨_, rfl⟩
    rw [hl] at HA hNl hk g1 g2 g3 hin hout hPz hpl HLK ⊢
    obtain ⟨N, hN⟩ : ∃ N, lnN l = N := ⟨_, rfl⟩
    obtain ⟨A, hA⟩ : ∃ A, lnA l k = A := ⟨_, rfl⟩
    obtain ⟨B, hB⟩ : ∃ A, lnB l k = A := ⟨_, rfl⟩
    rw [hN] at HA hNl hk
    rw [hA, hB] at hPz hpl g1 hout
    simp only [hA, hB] at hin
    rw [hA, hB] at HLK
    rw [hB] at g2
    obtain ⟨T, hT⟩ : ∃ T, s.extract A B = T := ⟨_, rfl⟩
    obtain ⟨S, hS⟩ : ∃ S, pieceL l A B = S := ⟨_, rfl⟩
    rw [hT, hS] at hPz
    rw [hS] at hpl hout
    simp only [hS] at hin
    have HS := Lib.hid hPz
    have hTs : S.length = T.size := by rw [← hPz, size_bs]
    have HPL := Lib.hid hpl
    have HTS := Lib.hid hTs
    have HIN := Lib.hid hin
    have HOUT := Lib.hid hout
    have hki : (k : Int) < (N : Int) := by omega
    have hk0 : (0 : Int) ≤ (k : Int) := by omega
    have hk1 : k ≤ 1048577 := by omega
    have hkd : decide (N ≤ k) = false := decide_eq_false (by omega)
    have hk00 : decide ((k : Int) < 0) = false := decide_eq_false (by omega)
    have hBs : B ≤ s.size := by omega
    have hTB : T.size + A = B := by omega
    clear hin hout hPz hpl hlk hl hN hA hB hS hTs hL g2 g3
    go_enter Tryd.func17, Tryd.ntmps17
    go_wp2_with (first
      | (go_at_call 19; (with_reducible refine (HA.out _).mono ?_); rintro e w2 ⟨ao, ca, rfl, hx2, hb2⟩; have T2 : Two w2 w.heap.size 27 (.int .i64 (k : Nat)) (.int .i64 C) := (hb2.block _ T0.lt).trans T0; have d2 := T2.cell0; obtain ⟨g, rfl, x0, x1⟩ := HLK.out _ _ hx2; clear hx2))
    have T3 := Two.new w2 41 (.int .i64 (A : Nat)) (.int .i64 (B : Nat))
    have T2' := (Two.alloc T2 (.cells #[.int .i64 (A : Nat), .int .i64 (B : Nat)] 41))
    have hbw : Below w.heap.size w (w2.alloc (.cells #[.int .i64 (A : Nat), .int .i64 (B : Nat)] 41)) := al (nx (al (Below.refl _ _) _) hb2) _
    have hsz : (w2.alloc (.cells #[.int .i64 (A : Nat), .int .i64 (B : Nat)] 41)).heap.size = w2.heap.size + 1 := by rw [World.size_alloc]
    obtain ⟨X, hX⟩ : ∃ X, w2.alloc (.cells #[.int .i64 (A : Nat), .int .i64 (B : Nat)] 41) = X := ⟨_, rfl⟩
    obtain ⟨p3, hp3⟩ : ∃ p, w2.heap.size = p := ⟨_, rfl⟩
    simp only [hX, hp3] at T3 T2' hbw hsz ⊢
    rw [← hsz]
    have hlt3 : p3 < X.heap.size := T3.lt
    have hlt2 : w.heap.size < X.heap.size := T2'.lt
    clear hX hp3 T2 T0 d0 d2 x0 x1 hb2 hsz hT
    go_loopw [8] (fun n wr => ∃ done p, Cut S done p ∧ wr.heap[X.heap.size]? = some (.stringIter T p) ∧ n = .int .i64 (done.length : Nat) ∧ Hid (C < 0 ∨ (done.length : Int) ≤ C) ∧ Below X.heap.size X wr) (fun _ wr => T.size - wr.iterPos X.heap.size)
    case atStart => exact ⟨[], 0, Cut.zero _, World.iter_heap _ _ _, rfl, Lib.hid (by simp; omega), al (Below.refl _ _) _⟩
    case round =>
      obtain ⟨done, p, hc, hit, rfl, hcb, hb⟩ := hrel
      have hdl := hc.len_le
      have hple := hc.1
      by_cases hp : p < T.size
      · have hp' : p < S.length := by rw [HTS.out]; exact hp
        have hnx := fun ty => Lib.run_next_any_at (P := Tryd.prog) wr X.heap.size T p ty hit hp
        rw [decode_bs, HS.out] at hnx
        have hcs := hc.step hp'
        have hw := (wid_bounds (S.drop p)).1
        have hat := hc.at'
        have hlc := hc.lt_count hp'
        obtain ⟨d, hd⟩ : ∃ d, d = Lib.decodeL (S.drop p) := ⟨_, rfl⟩
        rw [← hd] at hnx hcs hw
        obtain ⟨r, n'⟩ := d
        simp only at hnx hw hcs
        have hbi : Below X.heap.size wr (wr.iterAt X.heap.size T (p + n')) := Lib.below_iterAt (Below.refl _ _) (Nat.le_refl _) T (p + n')
        have HIT := Lib.hid (Lib.iterAt_heap wr X.heap.size T p (p + n') hit)
        have HIP := Lib.hid (show wr.iterPos X.heap.size = p from iterPos_of hit)
        have hbV : Below X.heap.size X (wr.iterAt X.heap.size T (p + n')) := hb.trans hbi
        obtain ⟨V, hV⟩ : ∃ V, wr.iterAt X.heap.size T (p + n') = V := ⟨_, rfl⟩
        rw [hV] at hnx HIT hbV
        have HCS := Lib.hid hcs
        have t2 : Two V w.heap.size 27 (.int .i64 (k : Nat)) (.int .i64 C) := (hbV.block _ hlt2).trans T2'
        have t3 : Two V p3 41 (.int .i64 (A : Nat)) (.int .i64 (B : Nat)) := (hbV.block _ hlt3).trans T3
        have c1 := t2.cell1
        have c2 := t3.cell0
        have hdl2 : done.length ≤ 1048576 := by omega
        have hAp : A + p ≤ 1048576 := by omega
        by_cases he : (done.length : Int) = C
        · have hf : (((done.length : Nat) : Int) == C) = true := beq_iff_eq.2 he
          have HV := Lib.hid (show placeZ l (k : Nat) C = (((A + p : Nat) : Int), 0) by rw [← he, HIN.out done.length (by omega), hat])
          clear hd hc hit hcs hV hbi hb hp' hat hlc he hcb
          go_wp2_with fail
          go_ret2
          exact ⟨by rw [HV.out]; rfl, hbw.trans (hbV.mono hbw.size)⟩
        · have hf : (((done.length : Nat) : Int) == C) = false := beq_eq_false_iff_ne.2 he
          have HCB := Lib.hid (show C < 0 ∨ ((done ++ [(r, n')]).length : Int) ≤ C by rw [List.length_append, List.length_singleton]; have := hcb.out; omega)
          clear hd hc hit hcs hV hbi hb hp' hat hlc he hcb
          go_wp2_with fail
          exact ⟨⟨_, _, HCS.out, HIT.out, by rw [List.length_append, List.length_singleton]; go_num, HCB, hbV⟩, by rw [iterPos_of HIT.out, HIP.out]; omega⟩
      · have hnx := fun ty => Lib.run_next_end_at (P := Tryd.prog) wr X.heap.size T p ty hit hp
        have hE := hc.end' (by rw [HTS.out]; omega)
        have t2 : Two wr w.heap.size 27 (.int .i64 (k : Nat)) (.int .i64 C) := (hb.block _ hlt2).trans T2'
        have t3 : Two wr p3 41 (.int .i64 (A : Nat)) (.int .i64 (B : Nat)) := (hb.block _ hlt3).trans T3
        have c1 := t2.cell1
        have c2 := t3.cell1
        have hdc : done.length = countN S := by rw [hE.1]; rfl
        by_cases he : (done.length : Int) = C
        · have hf : (((done.length : Nat) : Int) == C) = true := beq_iff_eq.2 he
          have HV := Lib.hid (show placeZ l (k : Nat) C = (((B : Nat) : Int), 0) by
            rw [← he, HIN.out done.length (by omega), hdc, atN_full, HTS.out]
            congr 1
            omega)
          clear hE hc hit he hcb hdc
          go_wp2_with fail
          go_ret2
          exact ⟨by rw [HV.out]; rfl, hbw.trans (hb.mono hbw.size)⟩
        · have hf : (((done.length : Nat) : Int) == C) = false := beq_eq_false_iff_ne.2 he
          have HV := Lib.hid (show placeZ l (k : Nat) C = (0, 6) from HOUT.out (by rw [← hdc]; have := hcb.out; omega))
          clear hE hc hit he hcb hdc
          go_wp2_with fail
          go_ret2
          exact ⟨by rw [HV.out]; rfl, hbw.trans (hb.mono hbw.size)⟩
end Go.Proofs.YtebmjmohhpkonaaDoor
