/-
  The document's into and Class: their contracts.
-/
import Derived.Test.YtkknmbkfiiidmaaDoorRefAlike
import Derived.Test.YtkknmbkfiiidmaaDoorWalkLaw
namespace Go.Proofs.YtkknmbkfiiidmaaDoor
open Go.RowKit

set_option maxHeartbeats 4000000 in
theorem refinto_any (s : ByteArray) (hs : s.size ≤ 1048576) (c : Int) (w : World) :
    Calls Tryd.prog 43 #[.string s, .int .i64 c] w fun e w' => e = .returned (.int .i64 (atN (bs s) (intoM (bs s) c) : Nat)) ∧ Below w.heap.size w w' := by
  obtain ⟨-, hMq, hq, hM1, hM2⟩ := into_find (bs s) c
  have hcl : (clampN (bs s) c : Int) = min (max c 0) (s.size : Int) := by unfold clampN; rw [size_bs]; omega
  have hnear := into_near (bs s) c
  have hfull : clampN (bs s) c = s.size → atN (bs s) (intoM (bs s) c) = s.size := by
    intro e
    unfold intoM
    rw [e, size_bs, ofT_end]
    exact atN_full (bs s)
  obtain ⟨M, hM⟩ : ∃ M, atN (bs s) (intoM (bs s) c) = M := ⟨_, rfl⟩
  obtain ⟨q, hqq⟩ : ∃ q, clampN (bs s) c = q := ⟨_, rfl⟩
  rw [← size_bs] at hq
  rw [hM, hqq] at hMq hfull
  rw [hM] at hM1 hM2 ⊢
  rw [hqq] at hq hM2 hcl
  have HM := Lib.hid (And.intro hM1 hM2)
  clear hM hqq hM1 hM2 hnear
  go_enter Tryd.func43, Tryd.ntmps43
  by_cases h0 : c < 0
  · have HV := Lib.hid (show M = 0 by omega)
    clear hcl hfull
    go_wp2_with fail
    go_ret
    exact ⟨ret_int (by rw [HV.out]; rfl), Below.refl _ _⟩
  · by_cases h1 : (s.size : Int) < c
    · have HV := Lib.hid (show M = s.size from hfull (by omega))
      clear hcl hfull
      go_wp2_with fail
      go_ret
      exact ⟨ret_int (by rw [HV.out]), Below.refl _ _⟩
    · obtain rfl : c = (q : Int) := by omega
      have hqs : (q : Int) ≤ (s.size : Int) := by omega
      have hq0 : (0 : Int) ≤ (q : Int) := by omega
      have hd1 : decide (s.size < q) = false := decide_eq_false (by omega)
      have hd0 : decide ((q : Int) < 0) = false := decide_eq_false (by omega)
      clear hcl hfull h0 h1
      go_wp2_with fail
      clear hqs hq0 hd0 hd1
      go_loopw [1] (fun v wr => ∃ q' : Nat, v = .int .i64 (q' : Nat) ∧ M ≤ q' ∧ q' ≤ q ∧ Below w.heap.size w wr) (fun v _ => (intOf v).toNat)
      case atStart => exact ⟨q, rfl, hMq, Nat.le_refl _, Below.refl _ _⟩
      case round =>
        obtain ⟨q', rfl, h1, h2, hb⟩ := hrel
        by_cases he : q' = M
        · subst he
          have HB := Lib.hid (refbegs_any s hs (q' : Nat))
          rw [begB_t (by rw [← size_bs]; omega) HM.out.1] at HB
          go_wp2_with (first | (go_at_call 53; (with_reducible refine (HB.out _).mono ?_); rintro e w2 ⟨rfl, hb2⟩))
          go_ret
          exact ⟨rfl, hb.trans (hb2.mono hb.size)⟩
        · have HB := Lib.hid (refbegs_any s hs (q' : Nat))
          rw [begB_f (by rw [← size_bs]; omega) (HM.out.2 q' (by omega) h2)] at HB
          have hq1 : 1 ≤ q' := by omega
          have HK := Lib.hid (show ((q' : Int) - 1) = ((q' - 1 : Nat) : Int) by omega)
          have hqb : q' ≤ 1048576 := by omega
          go_wp2_with (first | (go_at_call 53; (with_reducible refine (HB.out _).mono ?_); rintro e w2 ⟨rfl, hb2⟩))
          exact ⟨⟨q' - 1, congrArg (Value.int .i64) HK.out, by omega, by omega, hb.trans (hb2.mono hb.size)⟩, by simp [intOf]; omega⟩

/-- The class of a character, as the document has it. -/
theorem cls_wrong {r n : Nat} (h : rightR (r : Int) n = false) : cls (r : Nat) = 2 := by
  unfold rightR at h
  simp at h
  rw [h.1]
  decide +kernel
set_option maxHeartbeats 4000000 in
theorem refclass_any (p r n : Nat) (w : World) :
    Calls Tryd.prog 54 #[.agg #[.int .i64 (p : Nat), .int .i32 (r : Nat), .int .i64 (n : Nat), .bool (rightR (r : Int) n)]] w fun e w' => e = .returned (.int .i64 (cls (r : Nat) : Nat)) ∧ Below w.heap.size w w' := by
  have HB := Lib.hid (fun w => refblank_any (r : Int) w)
  have HW := Lib.hid (fun w => refword_any (r : Int) w)
  have hwr := cls_wrong (r := r) (n := n)
  obtain ⟨ri, hri⟩ : ∃ x, rightR (r : Int) n = x := ⟨_, rfl⟩
  rw [hri] at hwr ⊢
  obtain ⟨b1, hb1⟩ : ∃ b, blankB (r : Int) = b := ⟨_, rfl⟩
  obtain ⟨b2, hb2⟩ : ∃ b, wordB (r : Int) = b := ⟨_, rfl⟩
  have hc : cls (r : Nat) = if b1 = true then 0 else if b2 = true then 1 else 2 := by unfold cls; rw [hb1, hb2]
  obtain ⟨c, hcc⟩ : ∃ c, cls ((r : Nat) : Int) = c := ⟨_, rfl⟩
  rw [hb1] at HB
  rw [hb2] at HW
  rw [hcc] at hwr hc ⊢
  have HWR := Lib.hid hwr
  have HC := Lib.hid hc
  clear hri hb1 hb2 hcc hwr hc
  go_enter Tryd.func54, Tryd.ntmps54
  cases ri
  · have HV := Lib.hid (HWR.out rfl)
    go_wp2_with fail
    go_ret
    exact ⟨ret_int (by rw [HV.out]; rfl), al (Below.refl _ _) _⟩
  · have c1 : (w.alloc (.cells #[.int .i64 (p : Nat), .int .i32 (r : Nat), .int .i64 (n : Nat), .bool true] 49)).cell? ⟨w.heap.size, 1, none⟩ = some (.int .i32 (r : Nat)) := by
      have := cells_new w [.int .i64 (p : Nat), .int .i32 (r : Nat), .int .i64 (n : Nat), .bool true] 49 1 (.int .i32 (r : Nat)) rfl
      rwa [Addr.add_lit] at this
    have c3 : (w.alloc (.cells #[.int .i64 (p : Nat), .int .i32 (r : Nat), .int .i64 (n : Nat), .bool true] 49)).cell? ⟨w.heap.size, 3, none⟩ = some (.bool true) := by
      have := cells_new w [.int .i64 (p : Nat), .int .i32 (r : Nat), .int .i64 (n : Nat), .bool true] 49 3 (.bool true) rfl
      rwa [Addr.add_lit] at this
    cases b1
    · cases b2
      · have HV := Lib.hid (show c = 2 by rw [HC.out]; rfl)
        go_wp2_with (first
          | (go_at_call 13; (with_reducible refine (HB.out _).mono ?_); rintro e w1 ⟨rfl, hb1⟩; have c1' := cellKeep c1 hb1; have c3' := cellKeep c3 hb1)
          | (go_at_call 15; (with_reducible refine (HW.out _).mono ?_); rintro e w2 ⟨rfl, hb2⟩))
        go_ret
        exact ⟨ret_int (by rw [HV.out]; rfl), nx (nx (al (Below.refl _ _) _) hb1) hb2⟩
      · have HV := Lib.hid (show c = 1 by rw [HC.out]; rfl)
        go_wp2_with (first
          | (go_at_call 13; (with_reducible refine (HB.out _).mono ?_); rintro e w1 ⟨rfl, hb1⟩; have c1' := cellKeep c1 hb1; have c3' := cellKeep c3 hb1)
          | (go_at_call 15; (with_reducible refine (HW.out _).mono ?_); rintro e w2 ⟨rfl, hb2⟩))
        go_ret
        exact ⟨ret_int (by rw [HV.out]; rfl), nx (nx (al (Below.refl _ _) _) hb1) hb2⟩
    · have HV := Lib.hid (show c = 0 by rw [HC.out]; rfl)
      go_wp2_with (first | (go_at_call 13; (with_reducible refine (HB.out _).mono ?_); rintro e w1 ⟨rfl, hb1⟩))
      go_ret
      exact ⟨ret_int (by rw [HV.out]; rfl), nx (al (Below.refl _ _) _) hb1⟩
end Go.Proofs.YtkknmbkfiiidmaaDoor
