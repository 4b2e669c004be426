/-
  The document's Next and Back, and the walk of KindsStops.
-/
import Derived.Test.YtkknmbkfiiidmaaDoorRefStops
import Derived.Test.YtkknmbkfiiidmaaDoorKAwake
namespace Go.Proofs.YtkknmbkfiiidmaaDoor
open Go.RowKit

set_option maxHeartbeats 4000000 in
theorem refnext_any (s : ByteArray) (hs : s.size ≤ 1048576) (c : Int) (w : World) :
    Calls Tryd.prog 24 #[.string s, .int .i64 c] w fun e w' => e = .returned (.int .i64 (nextV (bs s) (intoM (bs s) c) : Nat)) ∧ Below w.heap.size w w' := by
  have HI := Lib.hid (fun w => refinto_any s hs c w)
  have HS := Lib.hid (fun w => refstops_any s hs w)
  have HNX := Lib.hid (fun i hi h1 h2 => next_from (bs s) c i hi h1 h2)
  have HNN := Lib.hid (next_none (bs s) c)
  obtain ⟨l, hl⟩ : ∃ l, bs s = l := ⟨_, rfl⟩
  have hlen : l.length = s.size := by rw [← hl, size_bs]
  have hN := stops_count l
  have hcl := countN_le l
  rw [hl] at HI HS HNX HNN ⊢
  obtain ⟨M, hM⟩ : ∃ M, atN l (intoM l c) = M := ⟨_, rfl⟩
  obtain ⟨V, hV⟩ : ∃ V, nextV l (intoM l c) = V := ⟨_, rfl⟩
  rw [hM] at HI HNX HNN
  rw [hV] at HNX HNN ⊢
  obtain ⟨L, hL⟩ : ∃ L, stopsL l = L := ⟨_, rfl⟩
  rw [hL] at HS HNX HNN hN
  obtain ⟨N, hNN⟩ : ∃ N, L.length = N := ⟨_, rfl⟩
  rw [hNN] at HS HNX HNN hN
  have HL := Lib.hid hNN
  have HLEN := Lib.hid hlen
  clear hl hM hV hL hNN
  go_enter Tryd.func24, Tryd.ntmps24
  go_wp2_with (first
    | (go_at_call 43; (with_reducible refine (HI.out _).mono ?_); rintro e w1 ⟨rfl, hb1⟩)
    | (go_at_call 44; (with_reducible refine (HS.out _).mono ?_); rintro e w2 ⟨ao, ca, rfl, R, hb2⟩))
  have HR := Lib.hid R
  have hbw2 : Below w.heap.size w w2 := nx hb1 hb2
  clear R
  go_loopw [6] (fun i wr => ∃ k, k ≤ N ∧ i = .int .i64 (k : Nat) ∧ Hid (∀ j, j < k → L[j]?.getD 0 ≤ M) ∧ Below w2.heap.size w2 wr) (fun i _ => N - (intOf i).toNat)
  case atStart => exact ⟨0, Nat.zero_le _, rfl, Lib.hid (fun j h => absurd h (Nat.not_lt_zero _)), Below.refl _ _⟩
  case round =>
    obtain ⟨k, hk, rfl, hA, hbr⟩ := hrel
    by_cases hlt : k < N
    · rcases HR.out.below hbr (Nat.le_refl _) with h0 | ⟨g, o, rfl, hc⟩
      · have := congrArg List.length h0
        rw [List.length_map, HL.out] at this
        simp at this
        omega
      · have e0 := hc k (by rw [List.length_map, HL.out]; omega)
        have hSk : (L.map fun (x : Nat) => (x : Int))[k]?.getD 0 = ((L[k]?.getD 0 : Nat) : Int) := by rw [List.getElem?_map, List.getElem?_eq_getElem (by rw [HL.out]; omega)]; rfl
        rw [hSk] at e0
        obtain ⟨x, hx⟩ : ∃ x, L[k]?.getD 0 = x := ⟨_, rfl⟩
        rw [hx] at e0
        have HX := Lib.hid hx
        have hki : (k : Int) < (N : Int) := by omega
        have hk0 : (0 : Int) ≤ (k : Int) := by omega
        have hk1 : k ≤ 1048577 := by omega
        clear hc hSk hx
        by_cases hgt : M < x
        · have HV := Lib.hid (HNX.out k hlt hA.out (by rw [HX.out]; exact hgt))
          have hd : decide (M < x) = true := decide_eq_true hgt
          clear hgt hA
          go_wp2_with fail
          go_ret
          exact ⟨ret_int (by rw [HV.out, HX.out]), nx hbw2 hbr⟩
        · have HA := Lib.hid (show ∀ j, j < k + 1 → L[j]?.getD 0 ≤ M from fun j hj => by
            by_cases e : j = k
            · rw [e, HX.out]; omega
            · exact hA.out j (by omega))
          have hd : decide (M < x) = false := decide_eq_false hgt
          clear hgt hA
          go_wp2_with fail
          exact ⟨⟨k + 1, by omega, by go_num, HA, hbr⟩, by simp [intOf]; omega⟩
    · obtain rfl : k = N := by omega
      have HV := Lib.hid (HNN.out hA.out)
      go_wp2_with fail
      go_ret
      exact ⟨ret_int (by rw [HV.out, HLEN.out]), nx hbw2 hbr⟩

set_option maxHeartbeats 4000000 in
theorem refback_any (s : ByteArray) (hs : s.size ≤ 1048576) (c : Int) (w : World) :
    Calls Tryd.prog 26 #[.string s, .int .i64 c] w fun e w' => e = .returned (.int .i64 (backV (bs s) (intoM (bs s) c) : Nat)) ∧ Below w.heap.size w w' := by
  have HI := Lib.hid (fun w => refinto_any s hs c w)
  have HS := Lib.hid (fun w => refstops_any s hs w)
  have HNX := Lib.hid (fun i hi h1 h2 => back_from (bs s) c i hi h1 h2)
  have HNN := Lib.hid (back_none (bs s) c)
  obtain ⟨l, hl⟩ : ∃ l, bs s = l := ⟨_, rfl⟩
  have hlen : l.length = s.size := by rw [← hl, size_bs]
  have hN := stops_count l
  have hcl := countN_le l
  rw [hl] at HI HS HNX HNN ⊢
  obtain ⟨M, hM⟩ : ∃ M, atN l (intoM l c) = M := ⟨_, rfl⟩
  obtain ⟨V, hV⟩ : ∃ V, backV l (intoM l c) = V := ⟨_, rfl⟩
  rw [hM] at HI HNX HNN
  rw [hV] at HNX HNN ⊢
  obtain ⟨L, hL⟩ : ∃ L, stopsL l = L := ⟨_, rfl⟩
  rw [hL] at HS HNX HNN hN
  obtain ⟨N, hNN⟩ : ∃ N, L.length = N := ⟨_, rfl⟩
  rw [hNN] at HS HNX HNN hN
  have HL := Lib.hid hNN
  clear hl hM hV hL hNN
  go_enter Tryd.func26, Tryd.ntmps26
  go_wp2_with (first
    | (go_at_call 43; (with_reducible refine (HI.out _).mono ?_); rintro e w1 ⟨rfl, hb1⟩)
    | (go_at_call 44; (with_reducible refine (HS.out _).mono ?_); rintro e w2 ⟨ao, ca, rfl, R, hb2⟩))
  have HR := Lib.hid R
  have hbw2 : Below w.heap.size w w2 := nx hb1 hb2
  clear R
  go_loopw [6] (fun i wr => ∃ k, k ≤ N ∧ i = .int .i64 ((k : Nat) - 1) ∧ Hid (∀ j, k ≤ j → j < N → ¬ L[j]?.getD 0 < M) ∧ Below w2.heap.size w2 wr) (fun i _ => (intOf i + 1).toNat)
  case atStart => exact ⟨N, Nat.le_refl _, rfl, Lib.hid (fun j h1 h2 => absurd h2 (by omega)), Below.refl _ _⟩
  case round =>
    obtain ⟨k, hk, rfl, hA, hbr⟩ := hrel
    by_cases hlt : 0 < k
    · obtain ⟨m, rfl⟩ : ∃ m, k = m + 1 := ⟨k - 1, by omega⟩
      rw [show (((m + 1 : Nat) : Int) - 1) = ((m : Nat) : Int) by omega]
      rcases HR.out.below hbr (Nat.le_refl _) with h0 | ⟨g, o, rfl, hc⟩
      · have := congrArg List.length h0
        rw [List.length_map, HL.out] at this
        simp at this
        omega
      · have e0 := hc m (by rw [List.length_map, HL.out]; omega)
        have hSk : (L.map fun (x : Nat) => (x : Int))[m]?.getD 0 = ((L[m]?.getD 0 : Nat) : Int) := by rw [List.getElem?_map, List.getElem?_eq_getElem (by rw [HL.out]; omega)]; rfl
        rw [hSk] at e0
        obtain ⟨x, hx⟩ : ∃ x, L[m]?.getD 0 = x := ⟨_, rfl⟩
        rw [hx] at e0
        have HX := Lib.hid hx
        have hki : (m : Int) < (N : Int) := by omega
        have hk0 : (0 : Int) ≤ (m : Int) := by omega
        have hk1 : m ≤ 1048577 := by omega
        clear hc hSk hx hlt
        by_cases hgt : x < M
        · have HV := Lib.hid (HNX.out m (by omega) (by rw [HX.out]; exact hgt) (fun j h1 h2 => hA.out j (by omega) h2))
          have hd : decide (x < M) = true := decide_eq_true hgt
          clear hgt hA
          go_wp2_with fail
          go_ret
          exact ⟨ret_int (by rw [HV.out, HX.out]), nx hbw2 hbr⟩
        · have HA := Lib.hid (show ∀ j, m ≤ j → j < N → ¬ L[j]?.getD 0 < M from fun j hj h2 => by
            by_cases e : j = m
            · rw [e, HX.out]; exact hgt
            · exact hA.out j (by omega) h2)
          have hd : decide (x < M) = false := decide_eq_false hgt
          clear hgt hA
          go_wp2_with fail
          exact ⟨⟨m, by omega, rfl, HA, hbr⟩, by simp only [intOf]; omega⟩
    · obtain rfl : k = 0 := by omega
      have HV := Lib.hid (HNN.out (fun j h => hA.out j (Nat.zero_le _) h))
      clear hA
      go_wp2_with fail
      go_ret
      exact ⟨ret_int (by rw [HV.out]; rfl), nx hbw2 hbr⟩

set_option maxHeartbeats 8000000 in
theorem kindsStops_any (s : ByteArray) (hs : s.size ≤ 1048576) (c : Int) (w : World) (hT : Tabs w) :
    Calls Tryd.prog 4 #[.string s, .int .i64 c] w fun e w' => e = .returned (.bool true) ∧ Below w.heap.size w w' := by
  have HT := Lib.hid hT
  have HAW := Lib.hid kawake_any
  have HN := Lib.hid (fun c w hT => next_any s (by omega) c w hT)
  have HB := Lib.hid (fun c w hT => kback_any s (by omega) c w hT)
  have HRN := Lib.hid (fun c w => refnext_any s hs c w)
  have HRB := Lib.hid (fun c w => refback_any s hs c w)
  clear hT
  go_enter Tryd.func4, Tryd.ntmps4
  have hb : Below w.heap.size w w := Below.refl _ _
  go_wp2_with (first
    | (go_at_call 23; (with_reducible refine (HN.out _ _ (HT.out.below hb (Nat.le_refl _))).mono ?_); rintro e w' ⟨rfl, hb'⟩; have hb := nx hb hb'; clear hb')
    | (go_at_call 24; (with_reducible refine (HRN.out _ _).mono ?_); rintro e w' ⟨rfl, hb'⟩; have hb := nx hb hb'; clear hb')
    | (go_at_call 25; (with_reducible refine (HB.out _ _ (HT.out.below hb (Nat.le_refl _))).mono ?_); rintro e w' ⟨rfl, hb'⟩; have hb := nx hb hb'; clear hb')
    | (go_at_call 26; (with_reducible refine (HRB.out _ _).mono ?_); rintro e w' ⟨rfl, hb'⟩; have hb := nx hb hb'; clear hb')
    | (go_at_call 22; (with_reducible refine (HAW.out _ (HT.out.below hb (Nat.le_refl _))).mono ?_); rintro e w' ⟨rfl, hb'⟩; have hb := nx hb hb'; clear hb'))
  go_loopw [5] (fun i wr => ∃ z : Int, -1 ≤ z ∧ z ≤ 60 ∧ i = .int .i64 z ∧ Below w.heap.size w wr) (fun i _ => (60 - intOf i).toNat)
  case atStart => exact ⟨-1, by omega, by omega, rfl, hb⟩
  case round =>
    obtain ⟨z, hz1, hz2, rfl, hbr⟩ := hrel
    clear hb
    have hb := hbr
    by_cases h1 : z ≤ (s.size : Int) + 1
    · by_cases h2 : z < 60
      ·
        go_wp2_with (first
          | (go_at_call 23; (with_reducible refine (HN.out _ _ (HT.out.below hb (Nat.le_refl _))).mono ?_); rintro e w' ⟨rfl, hb'⟩; have hb := nx hb hb'; clear hb')
          | (go_at_call 24; (with_reducible refine (HRN.out _ _).mono ?_); rintro e w' ⟨rfl, hb'⟩; have hb := nx hb hb'; clear hb')
          | (go_at_call 25; (with_reducible refine (HB.out _ _ (HT.out.below hb (Nat.le_refl _))).mono ?_); rintro e w' ⟨rfl, hb'⟩; have hb := nx hb hb'; clear hb')
          | (go_at_call 26; (with_reducible refine (HRB.out _ _).mono ?_); rintro e w' ⟨rfl, hb'⟩; have hb := nx hb hb'; clear hb')
          | (go_at_call 22; (with_reducible refine (HAW.out _ (HT.out.below hb (Nat.le_refl _))).mono ?_); rintro e w' ⟨rfl, hb'⟩; have hb := nx hb hb'; clear hb'))
        exact ⟨⟨z + 1, by omega, by omega, rfl, hb⟩, by simp [intOf]; omega⟩
      ·
        go_wp2_with (first
          | (go_at_call 23; (with_reducible refine (HN.out _ _ (HT.out.below hb (Nat.le_refl _))).mono ?_); rintro e w' ⟨rfl, hb'⟩; have hb := nx hb hb'; clear hb')
          | (go_at_call 24; (with_reducible refine (HRN.out _ _).mono ?_); rintro e w' ⟨rfl, hb'⟩; have hb := nx hb hb'; clear hb')
          | (go_at_call 25; (with_reducible refine (HB.out _ _ (HT.out.below hb (Nat.le_refl _))).mono ?_); rintro e w' ⟨rfl, hb'⟩; have hb := nx hb hb'; clear hb')
          | (go_at_call 26; (with_reducible refine (HRB.out _ _).mono ?_); rintro e w' ⟨rfl, hb'⟩; have hb := nx hb hb'; clear hb')
          | (go_at_call 22; (with_reducible refine (HAW.out _ (HT.out.below hb (Nat.le_refl _))).mono ?_); rintro e w' ⟨rfl, hb'⟩; have hb := nx hb hb'; clear hb'))
        go_ret
        exact ⟨rfl, hb⟩
    ·
      go_wp2_with (first
        | (go_at_call 23; (with_reducible refine (HN.out _ _ (HT.out.below hb (Nat.le_refl _))).mono ?_); rintro e w' ⟨rfl, hb'⟩; have hb := nx hb hb'; clear hb')
        | (go_at_call 24; (with_reducible refine (HRN.out _ _).mono ?_); rintro e w' ⟨rfl, hb'⟩; have hb := nx hb hb'; clear hb')
        | (go_at_call 25; (with_reducible refine (HB.out _ _ (HT.out.below hb (Nat.le_refl _))).mono ?_); rintro e w' ⟨rfl, hb'⟩; have hb := nx hb hb'; clear hb')
        | (go_at_call 26; (with_reducible refine (HRB.out _ _).mono ?_); rintro e w' ⟨rfl, hb'⟩; have hb := nx hb hb'; clear hb')
        | (go_at_call 22; (with_reducible refine (HAW.out _ (HT.out.below hb (Nat.le_refl _))).mono ?_); rintro e w' ⟨rfl, hb'⟩; have hb := nx hb hb'; clear hb'))
      go_ret
      exact ⟨rfl, hb⟩
end Go.Proofs.YtkknmbkfiiidmaaDoor
