/-
  The place of a line and a column: the contract of Place.
-/
import Derived.Test.YtebmjmohhpkonaaDoorLLine
import Derived.Test.YtebmjmohhpkonaaDoorWhereLaw
import Derived.Test.YtebmjmohhpkonaaDoorLater
namespace Go.Proofs.YtebmjmohhpkonaaDoor
open Go.RowKit

/-- what Place answers: the place, and the error -/
def placeZ (l : Bs) (L C : Int) : Int × Int :=
  if 0 ≤ L ∧ L < (lnN l : Int) ∧ 0 ≤ C ∧ C ≤ (countN (pieceL l (lnA l L.toNat) (lnB l L.toNat)) : Int) then (((lnA l L.toNat + atN (pieceL l (lnA l L.toNat) (lnB l L.toNat)) C.toNat : Nat) : Int), 0) else (0, 6)
theorem placeZ_out {l : Bs} {L C : Int} (h : L < 0 ∨ (lnN l : Int) ≤ L) : placeZ l L C = (0, 6) := if_neg (by omega)
theorem placeZ_col {l : Bs} {k : Nat} {C : Int} (hc : C < 0 ∨ (countN (pieceL l (lnA l k) (lnB l k)) : Int) < C) : placeZ l (k : Nat) C = (0, 6) := if_neg (by rw [show ((k : Nat) : Int).toNat = k from rfl]; omega)
theorem placeZ_in {l : Bs} {k j : Nat} (hk : k < lnN l) (hj : j ≤ countN (pieceL l (lnA l k) (lnB l k))) : placeZ l (k : Nat) (j : Nat) = (((lnA l k + atN (pieceL l (lnA l k) (lnB l k)) j : Nat) : Int), 0) := if_pos (by rw [show ((k : Nat) : Int).toNat = k from rfl]; omega)

set_option maxHeartbeats 4000000 in
theorem lplace_any (s : ByteArray) (hs : s.size ≤ 140737488351232) (L C : Int) (w : World) (hT : Tabs w) :
    Calls Tryd.prog 16 #[.string s, .agg #[.int .i64 L, .int .i64 C]] w fun e w' => e = .returned (.tuple #[.int .i64 (placeZ (bs s) L C).1, .int .i64 (placeZ (bs s) L C).2]) ∧ Below w.heap.size w w' := by
  have HT := Lib.hid hT
  clear hT
  by_cases hL : L < 0 ∨ (lnN (bs s) : Int) ≤ L
  · have HO := Lib.hid (fun w hT => lline_out s hs L hL w hT)
    rw [placeZ_out hL]
    clear hL
    go_enter Tryd.func16, Tryd.ntmps16
    have hb0 : Below w.heap.size w (w.alloc (.cells #[.int .i64 L, .int .i64 C] 27)) := al (Below.refl _ _) _
    have d0 := (Two.new w 27 (.int .i64 L) (.int .i64 C)).cell0
    go_wp2_with (first | (go_at_call 23; (with_reducible refine (HO.out _ (HT.out.below hb0 (Nat.le_refl _))).mono ?_); rintro e w2 ⟨rfl, hb2⟩))
    go_ret2
    exact ⟨rfl, al (nx hb0 hb2) _⟩
  · obtain ⟨k, rfl⟩ : ∃ k : Nat, L = (k : Nat) := ⟨L.toNat, by omega⟩
    have hk : k < lnN (bs s) := by omega
    have HO := Lib.hid (fun w hT => lline_at s hs k hk w hT)
    obtain ⟨g1, g2, g3, -⟩ := ln_get (bs s) k hk
    rw [← size_bs] at g2
    have hPz : bs (s.extract (lnA (bs s) k) (lnB (bs s) k)) = pieceL (bs s) (lnA (bs s) k) (lnB (bs s) k) := bs_extract s _ _
    obtain ⟨v, er, hve⟩ : ∃ v er, atZ (bs (s.extract (lnA (bs s) k) (lnB (bs s) k))) C = (v, er) := ⟨_, _, rfl⟩
    have HA := Lib.hid (fun w => c_at (s.extract (lnA (bs s) k) (lnB (bs s) k)) (by rw [ByteArray.size_extract]; omega) C v er hve w)
    rw [hPz] at hve
    by_cases hC : 0 ≤ C ∧ C ≤ (countN (pieceL (bs s) (lnA (bs s) k) (lnB (bs s) k)) : Int)
    · obtain ⟨j, rfl⟩ : ∃ j : Nat, C = (j : Nat) := ⟨C.toNat, by omega⟩
      have hv : atZ (pieceL (bs s) (lnA (bs s) k) (lnB (bs s) k)) (j : Nat) = (((atN (pieceL (bs s) (lnA (bs s) k) (lnB (bs s) k)) j : Nat) : Int), 0) := if_pos hC
      rw [hv] at hve
      have hat := (cut_at (pieceL (bs s) (lnA (bs s) k) (lnB (bs s) k)) j (by omega)).1
      have hpl : (pieceL (bs s) (lnA (bs s) k) (lnB (bs s) k)).length ≤ lnB (bs s) k - lnA (bs s) k := by unfold pieceL; rw [List.length_take]; omega
      rw [placeZ_in hk (by omega)]
      obtain ⟨a, ha⟩ : ∃ a, atN (pieceL (bs s) (lnA (bs s) k) (lnB (bs s) k)) j = a := ⟨_, rfl⟩
      rw [ha] at hve hat ⊢
      have ha2 : a ≤ 140737488351232 := by omega
      injection hve with e1 e2
      subst e1
      subst e2
      obtain ⟨A, hA⟩ : ∃ A, lnA (bs s) k = A := ⟨_, rfl⟩
      obtain ⟨B, hB⟩ : ∃ A, lnB (bs s) k = A := ⟨_, rfl⟩
      obtain ⟨E, hE⟩ : ∃ A, lnE (bs s) k = A := ⟨_, rfl⟩
      obtain ⟨C, hCC⟩ : ∃ C : Int, ((j : Nat) : Int) = C := ⟨_, rfl⟩
      obtain ⟨v, hvv⟩ : ∃ C : Int, ((a : Nat) : Int) = C := ⟨_, rfl⟩
      obtain ⟨er, her⟩ : ∃ C : Int, C = 0 := ⟨_, rfl⟩
      rw [hA, hB, hCC, hvv, ← her] at HA
      rw [hA, hB, hE] at HO
      rw [hA, hB] at hpl g1
      rw [hB, hE] at g2
      rw [hA, hCC]
      have HE := Lib.hid her
      have hvb : 0 ≤ v := by omega
      have hvb2 : v ≤ 140737488351232 := by omega
      have HV := Lib.hid (show ((A + a : Nat) : Int) = (A : Int) + v by omega)
      have her0 : (er != 0) = false := by rw [her]; rfl
      clear ha hA hB hE hL hk g3 hPz hv hC hpl hat hCC hvv her
      go_enter Tryd.func16, Tryd.ntmps16
      have hb0 : Below w.heap.size w (w.alloc (.cells #[.int .i64 (k : Nat), .int .i64 C] 27)) := al (Below.refl _ _) _
      have T0 := Two.new w 27 (.int .i64 (k : Nat)) (.int .i64 C)
      have d0 := T0.cell0
      go_wp2_with (first | (go_at_call 23; (with_reducible refine (HO.out _ (HT.out.below hb0 (Nat.le_refl _))).mono ?_); rintro e w2 ⟨rfl, hb2⟩))
      have hb3 : Below w.heap.size w (w2.alloc (.cells #[.int .i64 (A : Nat), .int .i64 (B : Nat)] 41)) := al (nx hb0 hb2) _
      have T1 : Two (w2.alloc (.cells #[.int .i64 (A : Nat), .int .i64 (B : Nat)] 41)) w.heap.size 27 (.int .i64 (k : Nat)) (.int .i64 C) := Two.alloc ((hb2.block _ T0.lt).trans T0) _
      have T2 := Two.new w2 41 (.int .i64 (A : Nat)) (.int .i64 (B : Nat))
      obtain ⟨wr, hwr⟩ : ∃ wr, w2.alloc (.cells #[.int .i64 (A : Nat), .int .i64 (B : Nat)] 41) = wr := ⟨_, rfl⟩
      obtain ⟨m, hm⟩ : ∃ m, w2.heap.size = m := ⟨_, rfl⟩
      rw [hwr] at hb3 T1 T2 ⊢
      rw [hm] at T2 ⊢
      clear hwr hm d0 T0 hb0
      have k0 := fun p : Later wr => Later.cell T1.cell0 p
      have k1 := fun p : Later wr => Later.cell T1.cell1 p
      have m0 := fun p : Later wr => Later.cell T2.cell0 p
      have m1 := fun p : Later wr => Later.cell T2.cell1 p
      have cA : ∀ p : Later wr, Calls Tryd.prog 33 #[.string (s.extract A B), .int .i64 C] p.W fun e w'' => e = .returned (.tuple #[.int .i64 v, .int .i64 er]) ∧ ∃ q : Later wr, w'' = q.W := fun p => Calls.later_of (HA.out _)
      refine wp_region_later (by kernel_rfl) (by kernel_rfl) ?_
      repeat (go_big_quiet_step (with_reducible exact cA _))
      refine wpQuiet_nil ?_
      intro _ hw'
      obtain ⟨pq, hw''⟩ := hw'
      subst hw''
      have q0 := m0 pq
      have hb4 := nx hb3 pq.hb
      clear k0 k1 m0 m1 cA
      go_wp2_with fail
      go_ret2
      exact ⟨by rw [HV.out]; rfl, hb4⟩
    · have hv : atZ (pieceL (bs s) (lnA (bs s) k) (lnB (bs s) k)) C = (0, 6) := if_neg hC
      rw [hv] at hve
      injection hve with e1 e2
      subst e1
      subst e2
      rw [placeZ_col (by omega)]
      obtain ⟨A, hA⟩ : ∃ A, lnA (bs s) k = A := ⟨_, rfl⟩
      obtain ⟨B, hB⟩ : ∃ A, lnB (bs s) k = A := ⟨_, rfl⟩
      obtain ⟨E, hE⟩ : ∃ A, lnE (bs s) k = A := ⟨_, rfl⟩
      obtain ⟨v, hvv⟩ : ∃ C : Int, C = 0 := ⟨_, rfl⟩
      obtain ⟨er, her⟩ : ∃ C : Int, C = 6 := ⟨_, rfl⟩
      rw [hA, hB, ← hvv, ← her] at HA
      rw [hA, hB, hE] at HO
      rw [hA, hB] at g1
      rw [hB, hE] at g2
      have her0 : (er != 0) = true := by rw [her]; rfl
      clear hA hB hE hL hk g3 hPz hv hC hvv her
      go_enter Tryd.func16, Tryd.ntmps16
      have hb0 : Below w.heap.size w (w.alloc (.cells #[.int .i64 (k : Nat), .int .i64 C] 27)) := al (Below.refl _ _) _
      have T0 := Two.new w 27 (.int .i64 (k : Nat)) (.int .i64 C)
      have d0 := T0.cell0
      go_wp2_with (first | (go_at_call 23; (with_reducible refine (HO.out _ (HT.out.below hb0 (Nat.le_refl _))).mono ?_); rintro e w2 ⟨rfl, hb2⟩))
      have hb3 : Below w.heap.size w (w2.alloc (.cells #[.int .i64 (A : Nat), .int .i64 (B : Nat)] 41)) := al (nx hb0 hb2) _
      have T1 : Two (w2.alloc (.cells #[.int .i64 (A : Nat), .int .i64 (B : Nat)] 41)) w.heap.size 27 (.int .i64 (k : Nat)) (.int .i64 C) := Two.alloc ((hb2.block _ T0.lt).trans T0) _
      have T2 := Two.new w2 41 (.int .i64 (A : Nat)) (.int .i64 (B : Nat))
      obtain ⟨wr, hwr⟩ : ∃ wr, w2.alloc (.cells #[.int .i64 (A : Nat), .int .i64 (B : Nat)] 41) = wr := ⟨_, rfl⟩
      obtain ⟨m, hm⟩ : ∃ m, w2.heap.size = m := ⟨_, rfl⟩
      rw [hwr] at hb3 T1 T2 ⊢
      rw [hm] at T2 ⊢
      clear hwr hm d0 T0 hb0
      have k0 := fun p : Later wr => Later.cell T1.cell0 p
      have k1 := fun p : Later wr => Later.cell T1.cell1 p
      have m0 := fun p : Later wr => Later.cell T2.cell0 p
      have m1 := fun p : Later wr => Later.cell T2.cell1 p
      have cA : ∀ p : Later wr, Calls Tryd.prog 33 #[.string (s.extract A B), .int .i64 C] p.W fun e w'' => e = .returned (.tuple #[.int .i64 v, .int .i64 er]) ∧ ∃ q : Later wr, w'' = q.W := fun p => Calls.later_of (HA.out _)
      refine wp_region_later (by kernel_rfl) (by kernel_rfl) ?_
      repeat (go_big_quiet_step (with_reducible exact cA _))
      refine wpQuiet_nil ?_
      intro _ hw'
      obtain ⟨pq, hw''⟩ := hw'
      subst hw''
      have q0 := m0 pq
      have hb4 := nx hb3 pq.hb
      clear k0 k1 m0 m1 cA
      go_wp2_with fail
      go_ret2
      exact ⟨rfl, hb4⟩
end Go.Proofs.YtebmjmohhpkonaaDoor
