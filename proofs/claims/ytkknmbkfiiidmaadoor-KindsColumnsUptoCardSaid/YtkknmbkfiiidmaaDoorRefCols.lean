/-
  Columns, as the document has it: its contract, and the walk of the law KindsColumns.
-/
import Derived.Test.YtkknmbkfiiidmaaDoorRefAlike
namespace Go.Proofs.YtkknmbkfiiidmaaDoor
open Go.RowKit

set_option maxHeartbeats 16000000 in
theorem refcols_any (a : ByteArray) (ha : a.size ≤ 1048576) (f t : Int) (w : World) :
    Calls Tryd.prog 28 #[.string a, .int .i64 f, .int .i64 t] w fun e w' => e = .returned (.int .i64 (colsV (bs a) f t : Nat)) ∧ Below w.heap.size w w' := by
  have HCA := Lib.hid (fun w => chars_at a ha w)
  have hla := bs_len_le a
  obtain ⟨la, hla'⟩ : ∃ l, bs a = l := ⟨_, rfl⟩
  rw [hla'] at HCA hla ⊢
  obtain ⟨na, hna⟩ : ∃ n, countN la = n := ⟨_, rfl⟩
  rw [hna] at HCA hla
  have HNA := Lib.hid hna
  unfold colsV
  have hTb := tabN_bounds t
  obtain ⟨T, hT⟩ : ∃ T, tabN t = T := ⟨_, rfl⟩
  have hFF : fromN f t = (max f 0).toNat % T := by rw [← hT]; rfl
  obtain ⟨F, hF⟩ : ∃ F, fromN f t = F := ⟨_, rfl⟩
  rw [hT] at hTb ⊢
  rw [hF] at hFF ⊢
  have HCA := Lib.hid (HCA.out w)
  clear hla' hna hF
  go_enter Tryd.func28, Tryd.ntmps28
  by_cases ht : t < 1
  · obtain rfl : T = 1 := by rw [← hT]; unfold tabN; omega
    obtain rfl : F = 0 := by rw [hFF]; exact Nat.mod_one _
    clear hT hFF
    by_cases hf : f < 0
    · skip
      go_wp2_with (first | (go_at_call 46; (with_reducible refine HCA.out.mono ?_); rintro e w1 ⟨ao, ca, rfl, hx1, hb1⟩))
      have HX := Lib.hid hx1
      clear hx1
      go_loopw [8, 9] (fun n i wr => ∃ k, k ≤ na ∧ i = .int .i64 (k : Nat) ∧ n = .int .i64 (colTo la 1 0 k : Nat) ∧ Below w1.heap.size w1 wr) (fun _ i _ => na - (intOf i).toNat)
      case atStart => exact ⟨0, Nat.zero_le _, rfl, rfl, Below.refl _ _⟩
      case round =>
        obtain ⟨k, hk, rfl, rfl, hbr⟩ := hrel
        have hN16 := colTo_le la 1 0 k (by omega)
        by_cases hlt : k < na
        · obtain ⟨g, rfl, -, x1, -, -⟩ := (HX.out.below hbr (Nat.le_refl _)) k (by rw [HNA.out]; exact hlt)
          have hst : colTo la 1 0 (k + 1) = colStep 1 0 (colTo la 1 0 k) (((tk la)[k]?.getD (0, 0)).1 : Nat) := rfl
          obtain ⟨r, hr⟩ : ∃ r, ((tk la)[k]?.getD (0, 0)).1 = r := ⟨_, rfl⟩
          obtain ⟨N, hN⟩ : ∃ N, colTo la 1 0 k = N := ⟨_, rfl⟩
          rw [hr] at x1 hst
          rw [hN] at hst hN16 ⊢
          have hki : (k : Int) < (na : Int) := by omega
          have hk0 : (0 : Int) ≤ (k : Int) := by omega
          have hk1 : k ≤ 1048576 := by omega
          have hNb : N ≤ 16777216 := by omega
          have HWD := Lib.hid (fun w => refwidth_any (r : Int) w)
          obtain ⟨v, hv⟩ : ∃ v, widthN (r : Int) = v := ⟨_, rfl⟩
          have hv2 := width_le (r : Int)
          rw [hv] at HWD hv2
          clear hr hN
          by_cases h9 : r = 9
          · subst h9
            have hst2 : colTo la 1 0 (k + 1) = N + (1 - (0 + N) % 1) := by rw [hst]; unfold colStep; rw [if_pos (show ((9 : Nat) : Int) = 9 from rfl)]
            have HST2 := Lib.hid hst2
            clear hst hst2 hv
            go_wp2_with fail
            go_quiet (fail)
            go_wp2_with fail
            exact ⟨⟨k + 1, by omega, by go_num, congrArg (Value.int .i64) (by rw [HST2.out]; simp [Nat.mod_one]), below_drewN hbr _⟩, by simp [intOf]; omega⟩
          · have hd' : ((r : Int) == 9) = false := beq_eq_false_iff_ne.2 (by omega)
            have hst2 : colTo la 1 0 (k + 1) = N + v := by rw [hst]; unfold colStep; rw [if_neg (by omega), hv]
            have HST := Lib.hid (show ((N : Int) + (v : Int)) = ((colTo la 1 0 (k + 1) : Nat) : Int) by rw [hst2]; omega)
            clear hst hst2 hv h9
            go_wp2_with (first | (go_at_call 19; (with_reducible refine (HWD.out _).mono ?_); rintro e w2 ⟨rfl, hb2⟩))
            exact ⟨⟨k + 1, by omega, by go_num, congrArg (Value.int .i64) HST.out, nx hbr hb2⟩, by simp [intOf]; omega⟩
        · have hki : (na : Int) ≤ (k : Int) := by omega
          have HK := Lib.hid (show k = countN la by rw [HNA.out]; omega)
          go_wp2_with fail
          go_ret
          exact ⟨ret_int (by rw [HK.out]), nx hb1 hbr⟩
    · have hf0 : 0 ≤ f := by omega
      go_wp2_with (first | (go_at_call 46; (with_reducible refine HCA.out.mono ?_); rintro e w1 ⟨ao, ca, rfl, hx1, hb1⟩))
      have HX := Lib.hid hx1
      clear hx1
      go_loopw [8, 9] (fun n i wr => ∃ k, k ≤ na ∧ i = .int .i64 (k : Nat) ∧ n = .int .i64 (colTo la 1 0 k : Nat) ∧ Below w1.heap.size w1 wr) (fun _ i _ => na - (intOf i).toNat)
      case atStart => exact ⟨0, Nat.zero_le _, rfl, rfl, Below.refl _ _⟩
      case round =>
        obtain ⟨k, hk, rfl, rfl, hbr⟩ := hrel
        have hN16 := colTo_le la 1 0 k (by omega)
        by_cases hlt : k < na
        · obtain ⟨g, rfl, -, x1, -, -⟩ := (HX.out.below hbr (Nat.le_refl _)) k (by rw [HNA.out]; exact hlt)
          have hst : colTo la 1 0 (k + 1) = colStep 1 0 (colTo la 1 0 k) (((tk la)[k]?.getD (0, 0)).1 : Nat) := rfl
          obtain ⟨r, hr⟩ : ∃ r, ((tk la)[k]?.getD (0, 0)).1 = r := ⟨_, rfl⟩
          obtain ⟨N, hN⟩ : ∃ N, colTo la 1 0 k = N := ⟨_, rfl⟩
          rw [hr] at x1 hst
          rw [hN] at hst hN16 ⊢
          have hki : (k : Int) < (na : Int) := by omega
          have hk0 : (0 : Int) ≤ (k : Int) := by omega
          have hk1 : k ≤ 1048576 := by omega
          have hNb : N ≤ 16777216 := by omega
          have HWD := Lib.hid (fun w => refwidth_any (r : Int) w)
          obtain ⟨v, hv⟩ : ∃ v, widthN (r : Int) = v := ⟨_, rfl⟩
          have hv2 := width_le (r : Int)
          rw [hv] at HWD hv2
          clear hr hN
          by_cases h9 : r = 9
          · subst h9
            have hst2 : colTo la 1 0 (k + 1) = N + (1 - (0 + N) % 1) := by rw [hst]; unfold colStep; rw [if_pos (show ((9 : Nat) : Int) = 9 from rfl)]
            have HST2 := Lib.hid hst2
            clear hst hst2 hv
            go_wp2_with fail
            go_quiet (fail)
            go_wp2_with fail
            exact ⟨⟨k + 1, by omega, by go_num, congrArg (Value.int .i64) (by rw [HST2.out]; simp [Nat.mod_one]), below_drewN hbr _⟩, by simp [intOf]; omega⟩
          · have hd' : ((r : Int) == 9) = false := beq_eq_false_iff_ne.2 (by omega)
            have hst2 : colTo la 1 0 (k + 1) = N + v := by rw [hst]; unfold colStep; rw [if_neg (by omega), hv]
            have HST := Lib.hid (show ((N : Int) + (v : Int)) = ((colTo la 1 0 (k + 1) : Nat) : Int) by rw [hst2]; omega)
            clear hst hst2 hv h9
            go_wp2_with (first | (go_at_call 19; (with_reducible refine (HWD.out _).mono ?_); rintro e w2 ⟨rfl, hb2⟩))
            exact ⟨⟨k + 1, by omega, by go_num, congrArg (Value.int .i64) HST.out, nx hbr hb2⟩, by simp [intOf]; omega⟩
        · have hki : (na : Int) ≤ (k : Int) := by omega
          have HK := Lib.hid (show k = countN la by rw [HNA.out]; omega)
          go_wp2_with fail
          go_ret
          exact ⟨ret_int (by rw [HK.out]), nx hb1 hbr⟩
  · by_cases ht2 : 16 < t
    · obtain rfl : T = 16 := by rw [← hT]; unfold tabN; omega
      clear hT
      by_cases hf : f < 0
      · obtain rfl : F = 0 := by rw [hFF]; omega
        clear hFF
        go_wp2_with (first | (go_at_call 46; (with_reducible refine HCA.out.mono ?_); rintro e w1 ⟨ao, ca, rfl, hx1, hb1⟩))
        have HX := Lib.hid hx1
        clear hx1
        go_loopw [8, 9] (fun n i wr => ∃ k, k ≤ na ∧ i = .int .i64 (k : Nat) ∧ n = .int .i64 (colTo la 16 0 k : Nat) ∧ Below w1.heap.size w1 wr) (fun _ i _ => na - (intOf i).toNat)
        case atStart => exact ⟨0, Nat.zero_le _, rfl, rfl, Below.refl _ _⟩
        case round =>
          obtain ⟨k, hk, rfl, rfl, hbr⟩ := hrel
          have hN16 := colTo_le la 16 0 k (by omega)
          by_cases hlt : k < na
          · obtain ⟨g, rfl, -, x1, -, -⟩ := (HX.out.below hbr (Nat.le_refl _)) k (by rw [HNA.out]; exact hlt)
            have hst : colTo la 16 0 (k + 1) = colStep 16 0 (colTo la 16 0 k) (((tk la)[k]?.getD (0, 0)).1 : Nat) := rfl
            obtain ⟨r, hr⟩ : ∃ r, ((tk la)[k]?.getD (0, 0)).1 = r := ⟨_, rfl⟩
            obtain ⟨N, hN⟩ : ∃ N, colTo la 16 0 k = N := ⟨_, rfl⟩
            rw [hr] at x1 hst
            rw [hN] at hst hN16 ⊢
            have hki : (k : Int) < (na : Int) := by omega
            have hk0 : (0 : Int) ≤ (k : Int) := by omega
            have hk1 : k ≤ 1048576 := by omega
            have hNb : N ≤ 16777216 := by omega
            have HWD := Lib.hid (fun w => refwidth_any (r : Int) w)
            obtain ⟨v, hv⟩ : ∃ v, widthN (r : Int) = v := ⟨_, rfl⟩
            have hv2 := width_le (r : Int)
            rw [hv] at HWD hv2
            clear hr hN
            by_cases h9 : r = 9
            · subst h9
              have hst2 : colTo la 16 0 (k + 1) = N + (16 - (0 + N) % 16) := by rw [hst]; unfold colStep; rw [if_pos (show ((9 : Nat) : Int) = 9 from rfl)]
              have HST2 := Lib.hid hst2
              clear hst hst2 hv
              go_wp2_with fail
              go_quiet (fail)
              go_wp2_with fail
              exact ⟨⟨k + 1, by omega, by go_num, congrArg (Value.int .i64) (by rw [HST2.out]; omega), below_drewN hbr _⟩, by simp [intOf]; omega⟩
            · have hd' : ((r : Int) == 9) = false := beq_eq_false_iff_ne.2 (by omega)
              have hst2 : colTo la 16 0 (k + 1) = N + v := by rw [hst]; unfold colStep; rw [if_neg (by omega), hv]
              have HST := Lib.hid (show ((N : Int) + (v : Int)) = ((colTo la 16 0 (k + 1) : Nat) : Int) by rw [hst2]; omega)
              clear hst hst2 hv h9
              go_wp2_with (first | (go_at_call 19; (with_reducible refine (HWD.out _).mono ?_); rintro e w2 ⟨rfl, hb2⟩))
              exact ⟨⟨k + 1, by omega, by go_num, congrArg (Value.int .i64) HST.out, nx hbr hb2⟩, by simp [intOf]; omega⟩
          · have hki : (na : Int) ≤ (k : Int) := by omega
            have HK := Lib.hid (show k = countN la by rw [HNA.out]; omega)
            go_wp2_with fail
            go_ret
            exact ⟨ret_int (by rw [HK.out]), nx hb1 hbr⟩
      · obtain ⟨G, rfl⟩ : ∃ G : Nat, f = (G : Int) := ⟨f.toNat, by omega⟩
        have HFF := Lib.hid (show F = G % 16 by rw [hFF]; omega)
        clear hFF hf
        have hF16 : F ≤ 16 := by have := HFF.out; omega
        go_wp2_with (first | (go_at_call 46; (with_reducible refine HCA.out.mono ?_); rintro e w1 ⟨ao, ca, rfl, hx1, hb1⟩))
        have HX := Lib.hid hx1
        clear hx1
        go_loopw [8, 9] (fun n i wr => ∃ k, k ≤ na ∧ i = .int .i64 (k : Nat) ∧ n = .int .i64 (colTo la 16 F k : Nat) ∧ Below w1.heap.size w1 wr) (fun _ i _ => na - (intOf i).toNat)
        case atStart => exact ⟨0, Nat.zero_le _, rfl, rfl, Below.refl _ _⟩
        case round =>
          obtain ⟨k, hk, rfl, rfl, hbr⟩ := hrel
          have hN16 := colTo_le la 16 F k (by omega)
          by_cases hlt : k < na
          · obtain ⟨g, rfl, -, x1, -, -⟩ := (HX.out.below hbr (Nat.le_refl _)) k (by rw [HNA.out]; exact hlt)
            have hst : colTo la 16 F (k + 1) = colStep 16 F (colTo la 16 F k) (((tk la)[k]?.getD (0, 0)).1 : Nat) := rfl
            obtain ⟨r, hr⟩ : ∃ r, ((tk la)[k]?.getD (0, 0)).1 = r := ⟨_, rfl⟩
            obtain ⟨N, hN⟩ : ∃ N, colTo la 16 F k = N := ⟨_, rfl⟩
            rw [hr] at x1 hst
            rw [hN] at hst hN16 ⊢
            have hki : (k : Int) < (na : Int) := by omega
            have hk0 : (0 : Int) ≤ (k : Int) := by omega
            have hk1 : k ≤ 1048576 := by omega
            have hNb : N ≤ 16777216 := by omega
            have HWD := Lib.hid (fun w => refwidth_any (r : Int) w)
            obtain ⟨v, hv⟩ : ∃ v, widthN (r : Int) = v := ⟨_, rfl⟩
            have hv2 := width_le (r : Int)
            rw [hv] at HWD hv2
            clear hr hN
            by_cases h9 : r = 9
            · subst h9
              have hst2 : colTo la 16 F (k + 1) = N + (16 - (F + N) % 16) := by rw [hst]; unfold colStep; rw [if_pos (show ((9 : Nat) : Int) = 9 from rfl)]
              have HST2 := Lib.hid hst2
              clear hst hst2 hv
              go_wp2_with fail
              go_quiet (fail)
              go_wp2_with fail
              exact ⟨⟨k + 1, by omega, by go_num, congrArg (Value.int .i64) (by rw [HST2.out]; have := HFF.out; omega), below_drewN hbr _⟩, by simp [intOf]; omega⟩
            · have hd' : ((r : Int) == 9) = false := beq_eq_false_iff_ne.2 (by omega)
              have hst2 : colTo la 16 F (k + 1) = N + v := by rw [hst]; unfold colStep; rw [if_neg (by omega), hv]
              have HST := Lib.hid (show ((N : Int) + (v : Int)) = ((colTo la 16 F (k + 1) : Nat) : Int) by rw [hst2]; omega)
              clear hst hst2 hv h9
              go_wp2_with (first | (go_at_call 19; (with_reducible refine (HWD.out _).mono ?_); rintro e w2 ⟨rfl, hb2⟩))
              exact ⟨⟨k + 1, by omega, by go_num, congrArg (Value.int .i64) HST.out, nx hbr hb2⟩, by simp [intOf]; omega⟩
          · have hki : (na : Int) ≤ (k : Int) := by omega
            have HK := Lib.hid (show k = countN la by rw [HNA.out]; omega)
            go_wp2_with fail
            go_ret
            exact ⟨ret_int (by rw [HK.out]), nx hb1 hbr⟩
    · obtain rfl : t = (T : Int) := by rw [← hT]; unfold tabN; omega
      clear hT
      have hT1 : (1 : Int) ≤ (T : Int) := by omega
      have hT16 : (T : Int) ≤ 16 := by omega
      have hT0 : (T : Int) ≠ 0 := by omega
      by_cases hf : f < 0
      · obtain rfl : F = 0 := by rw [hFF, show (max f 0).toNat = 0 by omega]; exact Nat.zero_mod _
        clear hFF
        go_wp2_with (first | (go_at_call 46; (with_reducible refine HCA.out.mono ?_); rintro e w1 ⟨ao, ca, rfl, hx1, hb1⟩))
        have HX := Lib.hid hx1
        clear hx1
        go_loopw [8, 9] (fun n i wr => ∃ k, k ≤ na ∧ i = .int .i64 (k : Nat) ∧ n = .int .i64 (colTo la T 0 k : Nat) ∧ Below w1.heap.size w1 wr) (fun _ i _ => na - (intOf i).toNat)
        case atStart => exact ⟨0, Nat.zero_le _, rfl, rfl, Below.refl _ _⟩
        case round =>
          obtain ⟨k, hk, rfl, rfl, hbr⟩ := hrel
          have hN16 := colTo_le la T 0 k (by omega)
          by_cases hlt : k < na
          · obtain ⟨g, rfl, -, x1, -, -⟩ := (HX.out.below hbr (Nat.le_refl _)) k (by rw [HNA.out]; exact hlt)
            have hst : colTo la T 0 (k + 1) = colStep T 0 (colTo la T 0 k) (((tk la)[k]?.getD (0, 0)).1 : Nat) := rfl
            obtain ⟨r, hr⟩ : ∃ r, ((tk la)[k]?.getD (0, 0)).1 = r := ⟨_, rfl⟩
            obtain ⟨N, hN⟩ : ∃ N, colTo la T 0 k = N := ⟨_, rfl⟩
            rw [hr] at x1 hst
            rw [hN] at hst hN16 ⊢
            have hki : (k : Int) < (na : Int) := by omega
            have hk0 : (0 : Int) ≤ (k : Int) := by omega
            have hk1 : k ≤ 1048576 := by omega
            have hNb : N ≤ 16777216 := by omega
            have HWD := Lib.hid (fun w => refwidth_any (r : Int) w)
            obtain ⟨v, hv⟩ : ∃ v, widthN (r : Int) = v := ⟨_, rfl⟩
            have hv2 := width_le (r : Int)
            rw [hv] at HWD hv2
            clear hr hN
            by_cases h9 : r = 9
            · subst h9
              have hst2 : colTo la T 0 (k + 1) = N + (T - (0 + N) % T) := by rw [hst]; unfold colStep; rw [if_pos (show ((9 : Nat) : Int) = 9 from rfl)]
              have HST2 := Lib.hid hst2
              obtain ⟨M, hM⟩ : ∃ M, N % T = M := ⟨_, rfl⟩
              have hMT : M < T := by rw [← hM]; exact Nat.mod_lt _ (by omega)
              have e2 : (N : Int) % (T : Int) = (M : Int) := by rw [← hM]; exact (Int.natCast_emod N T).symm
              have e2' : (N : Int).tmod (T : Int) = (M : Int) := by rw [Int.tmod_eq_emod_of_nonneg (by omega)]; exact e2
              have e3 : (M : Int) % (T : Int) = (M : Int) := Int.emod_eq_of_lt (by omega) (by omega)
              have e3' : (M : Int).tmod (T : Int) = (M : Int) := by rw [Int.tmod_eq_emod_of_nonneg (by omega)]; exact e3
              have HMM := Lib.hid (show (0 + N) % T = M by rw [Nat.zero_add]; exact hM)
              clear hM
              clear hst hst2 hv
              go_wp2_with fail
              go_quiet (fail)
              go_wp2_with fail
              exact ⟨⟨k + 1, by omega, by go_num, congrArg (Value.int .i64) (by rw [HST2.out]; rw [HMM.out]; omega), below_drewN hbr _⟩, by simp [intOf]; omega⟩
            · have hd' : ((r : Int) == 9) = false := beq_eq_false_iff_ne.2 (by omega)
              have hst2 : colTo la T 0 (k + 1) = N + v := by rw [hst]; unfold colStep; rw [if_neg (by omega), hv]
              have HST := Lib.hid (show ((N : Int) + (v : Int)) = ((colTo la T 0 (k + 1) : Nat) : Int) by rw [hst2]; omega)
              clear hst hst2 hv h9
              go_wp2_with (first | (go_at_call 19; (with_reducible refine (HWD.out _).mono ?_); rintro e w2 ⟨rfl, hb2⟩))
              exact ⟨⟨k + 1, by omega, by go_num, congrArg (Value.int .i64) HST.out, nx hbr hb2⟩, by simp [intOf]; omega⟩
          · have hki : (na : Int) ≤ (k : Int) := by omega
            have HK := Lib.hid (show k = countN la by rw [HNA.out]; omega)
            go_wp2_with fail
            go_ret
            exact ⟨ret_int (by rw [HK.out]), nx hb1 hbr⟩
      · obtain ⟨G, rfl⟩ : ∃ G : Nat, f = (G : Int) := ⟨f.toNat, by omega⟩
        have HFF := Lib.hid (show F = G % T by rw [hFF, show (max (G : Int) 0).toNat = G by omega])
        clear hFF hf
        have hFT : F < T := by rw [HFF.out]; exact Nat.mod_lt _ (by omega)
        go_wp2_with (first | (go_at_call 46; (with_reducible refine HCA.out.mono ?_); rintro e w1 ⟨ao, ca, rfl, hx1, hb1⟩))
        have HX := Lib.hid hx1
        clear hx1
        go_loopw [8, 9] (fun n i wr => ∃ k, k ≤ na ∧ i = .int .i64 (k : Nat) ∧ n = .int .i64 (colTo la T F k : Nat) ∧ Below w1.heap.size w1 wr) (fun _ i _ => na - (intOf i).toNat)
        case atStart => exact ⟨0, Nat.zero_le _, rfl, rfl, Below.refl _ _⟩
        case round =>
          obtain ⟨k, hk, rfl, rfl, hbr⟩ := hrel
          have hN16 := colTo_le la T F k (by omega)
          by_cases hlt : k < na
          · obtain ⟨g, rfl, -, x1, -, -⟩ := (HX.out.below hbr (Nat.le_refl _)) k (by rw [HNA.out]; exact hlt)
            have hst : colTo la T F (k + 1) = colStep T F (colTo la T F k) (((tk la)[k]?.getD (0, 0)).1 : Nat) := rfl
            obtain ⟨r, hr⟩ : ∃ r, ((tk la)[k]?.getD (0, 0)).1 = r := ⟨_, rfl⟩
            obtain ⟨N, hN⟩ : ∃ N, colTo la T F k = N := ⟨_, rfl⟩
            rw [hr] at x1 hst
            rw [hN] at hst hN16 ⊢
            have hki : (k : Int) < (na : Int) := by omega
            have hk0 : (0 : Int) ≤ (k : Int) := by omega
            have hk1 : k ≤ 1048576 := by omega
            have hNb : N ≤ 16777216 := by omega
            have HWD := Lib.hid (fun w => refwidth_any (r : Int) w)
            obtain ⟨v, hv⟩ : ∃ v, widthN (r : Int) = v := ⟨_, rfl⟩
            have hv2 := width_le (r : Int)
            rw [hv] at HWD hv2
            clear hr hN
            by_cases h9 : r = 9
            · subst h9
              have hst2 : colTo la T F (k + 1) = N + (T - (F + N) % T) := by rw [hst]; unfold colStep; rw [if_pos (show ((9 : Nat) : Int) = 9 from rfl)]
              have HST2 := Lib.hid hst2
              obtain ⟨M, hM⟩ : ∃ M, N % T = M := ⟨_, rfl⟩
              obtain ⟨Y, hY⟩ : ∃ Y, (F + M) % T = Y := ⟨_, rfl⟩
              have hYT : Y < T := by rw [← hY]; exact Nat.mod_lt _ (by omega)
              have e2 : (N : Int) % (T : Int) = (M : Int) := by rw [← hM]; exact (Int.natCast_emod N T).symm
              have e2' : (N : Int).tmod (T : Int) = (M : Int) := by rw [Int.tmod_eq_emod_of_nonneg (by omega)]; exact e2
              have e1 : (G : Int) % (T : Int) = (F : Int) := by rw [HFF.out]; exact (Int.natCast_emod G T).symm
              have e1' : (G : Int).tmod (T : Int) = (F : Int) := by rw [Int.tmod_eq_emod_of_nonneg (by omega)]; exact e1
              have e3 : ((F : Int) + (M : Int)) % (T : Int) = (Y : Int) := by rw [← hY]; exact (Int.natCast_emod (F + M) T).symm
              have e3' : ((F : Int) + (M : Int)).tmod (T : Int) = (Y : Int) := by rw [Int.tmod_eq_emod_of_nonneg (by omega)]; exact e3
              have HMM := Lib.hid (show (F + N) % T = Y by rw [← hY, ← hM, Nat.add_mod_mod])
              have hMT : M < T := by rw [← hM]; exact Nat.mod_lt _ (by omega)
              clear hM hY
              clear hst hst2 hv
              go_wp2_with fail
              go_quiet (fail)
              go_wp2_with fail
              exact ⟨⟨k + 1, by omega, by go_num, congrArg (Value.int .i64) (by rw [HST2.out]; rw [HMM.out]; omega), below_drewN hbr _⟩, by simp [intOf]; omega⟩
            · have hd' : ((r : Int) == 9) = false := beq_eq_false_iff_ne.2 (by omega)
              have hst2 : colTo la T F (k + 1) = N + v := by rw [hst]; unfold colStep; rw [if_neg (by omega), hv]
              have HST := Lib.hid (show ((N : Int) + (v : Int)) = ((colTo la T F (k + 1) : Nat) : Int) by rw [hst2]; omega)
              clear hst hst2 hv h9
              go_wp2_with (first | (go_at_call 19; (with_reducible refine (HWD.out _).mono ?_); rintro e w2 ⟨rfl, hb2⟩))
              exact ⟨⟨k + 1, by omega, by go_num, congrArg (Value.int .i64) HST.out, nx hbr hb2⟩, by simp [intOf]; omega⟩
          · have hki : (na : Int) ≤ (k : Int) := by omega
            have HK := Lib.hid (show k = countN la by rw [HNA.out]; omega)
            go_wp2_with fail
            go_ret
            exact ⟨ret_int (by rw [HK.out]), nx hb1 hbr⟩

set_option maxHeartbeats 2000000 in
theorem kindsColumns_any (a : ByteArray) (ha : a.size ≤ 1048576) (f t : Int) (w : World) (hT : Tabs w) :
    Calls Tryd.prog 5 #[.string a, .int .i64 f, .int .i64 t] w fun e w' => e = .returned (.bool true) ∧ Below w.heap.size w w' := by
  have HT := Lib.hid hT
  have H1 := Lib.hid (columns_any a (by omega) f t w)
  have H2 := Lib.hid (fun w => refcols_any a ha f t w)
  have HAW := Lib.hid (fun w hT => kawake_any w hT)
  clear hT
  go_enter Tryd.func5, Tryd.ntmps5
  go_wp2_with (first
    | (go_at_call 27; (with_reducible refine H1.out.mono ?_); rintro e w1 ⟨rfl, hb1⟩)
    | (go_at_call 28; (with_reducible refine (H2.out _).mono ?_); rintro e w2 ⟨rfl, hb2⟩; have hb12 := nx hb1 hb2)
    | (go_at_call 22; (with_reducible refine (HAW.out _ (HT.out.below hb12 (Nat.le_refl _))).mono ?_); rintro e w3 ⟨rfl, hb3⟩; have hb13 := nx hb12 hb3))
  go_ret
  exact ⟨rfl, hb13⟩
end Go.Proofs.YtkknmbkfiiidmaaDoor

