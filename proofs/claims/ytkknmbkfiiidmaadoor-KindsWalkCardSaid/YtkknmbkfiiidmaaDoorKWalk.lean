/-
  The walk of the law KindsWalk: from word to word.
-/
import Derived.Test.YtkknmbkfiiidmaaDoorKStops
import Derived.Test.YtkknmbkfiiidmaaDoorWalkLaw
namespace Go.Proofs.YtkknmbkfiiidmaaDoor
open Go.RowKit

/-- the stop number i -/
def stp (l : Bs) (i : Nat) : Nat := (stopsL l)[i]?.getD 0
/-- The place ahead of the stop number k. -/
def Ahead (l : Bs) (k P : Nat) : Prop := (P = 0 ∨ ∃ j, j < k ∧ P = stp l j) ∧ ∀ j, j < k → stp l j ≤ P
theorem ahead_zero (l : Bs) : Ahead l 0 0 := ⟨.inl rfl, fun _ h => absurd h (Nat.not_lt_zero _)⟩
theorem ahead_skip {l : Bs} {k P : Nat} (h : Ahead l k P) (h0 : stp l k = 0) : Ahead l (k + 1) P :=
  ⟨h.1.imp id (fun ⟨j, hj, e⟩ => ⟨j, by omega, e⟩), fun j hj => by
    by_cases e : j = k
    · rw [e, h0]; omega
    · exact h.2 j (by omega)⟩
theorem ahead_lt {l : Bs} {k P : Nat} (h : Ahead l k P) (hk : k < (stopsL l).length) (h0 : stp l k ≠ 0) : P < stp l k := by
  rcases h.1 with e | ⟨j, hj, e⟩
  · omega
  · rw [e]; exact stops_lt l hk hj
theorem ahead_next {l : Bs} {k P : Nat} (h : Ahead l k P) (hk : k < (stopsL l).length) (h0 : stp l k ≠ 0) : nextV l (intoM l (P : Nat)) = stp l k := by
  have hb : ∃ m, m ≤ countN l ∧ P = atN l m := by
    rcases h.1 with e | ⟨j, hj, e⟩
    · exact ⟨0, Nat.zero_le _, by rw [e, atN_zero]⟩
    · obtain ⟨m, hm, e2⟩ := stops_at l (show j < (stopsL l).length by omega)
      exact ⟨m, hm, e.trans e2⟩
  obtain ⟨m, hm, e⟩ := hb
  exact next_at l P m k hm e hk h.2 (ahead_lt h hk h0)
theorem ahead_go {l : Bs} {k P : Nat} (h : Ahead l k P) (hk : k < (stopsL l).length) (h0 : stp l k ≠ 0) : Ahead l (k + 1) (stp l k) :=
  ⟨.inr ⟨k, by omega, rfl⟩, fun j hj => by
    by_cases e : j = k
    · rw [e]; exact Nat.le_refl _
    · exact Nat.le_of_lt (Nat.lt_of_le_of_lt (h.2 j (by omega)) (ahead_lt h hk h0))⟩

set_option maxHeartbeats 16000000 in
theorem kindsWalk_any (s : ByteArray) (hs : s.size ≤ 140737488351232) (c : Int) (w : World) (hT : Tabs w) :
    Calls Tryd.prog 7 #[.string s, .int .i64 c] w fun e w' => e = .returned (.bool true) ∧ Below w.heap.size w w' := by
  have HT := Lib.hid hT
  have HAW := Lib.hid (kawake_any w hT)
  clear hT
  go_enter Tryd.func7, Tryd.ntmps7
  by_cases h3 : 3000 < s.size
  · have h3i : (3000 : Int) < (s.size : Int) := by omega
    have hx : (s.extract 0 3000).size ≤ 3000 := by rw [size_bs, bs_take]; simp; omega
    have HX := Lib.hid hx
    clear hx
    go_wp2_with (first | (go_at_call 22; (with_reducible refine HAW.out.mono ?_); rintro e w1 ⟨rfl, hb1⟩))
    have hx := HX.out
    clear HX h3 h3i
    generalize s.extract 0 3000 = t at hx ⊢
    obtain ⟨l, hl⟩ : ∃ l, bs t = l := ⟨_, rfl⟩
    have hlen : l.length = t.size := by rw [← hl, size_bs]
    have HST := Lib.hid (stops_any t hx)
    have HN := Lib.hid (fun c w hT => next_any t (by omega) c w hT)
    have HB := Lib.hid (fun c w hT => kback_any t (by omega) c w hT)
    rw [hl] at HST HN HB
    have hsc := stops_count l
    have hcl := countN_le l
    obtain ⟨N, hN⟩ : ∃ N, (stopsL l).length = N := ⟨_, rfl⟩
    rw [hN] at HST hsc
    have hN1 : 1 ≤ N := by rw [← hN]; exact stops_ne l
    have HNN := Lib.hid hN
    have HL := Lib.hid hl
    have hbw : Below w.heap.size w w1 := hb1
    have HTW := Lib.hid (HT.out.below hb1 (Nat.le_refl _))
    have hN3 : N ≤ 3001 := by omega
    clear hl hN hcl hsc
    go_wp2_with (first | (go_at_call 29; (with_reducible refine (HST.out _ HTW.out).mono ?_); rintro e w2 ⟨ao, ca, rfl, R, hb2⟩))
    have HR := Lib.hid R
    have hbw2 : Below w.heap.size w w2 := hbw.trans (hb2.mono hbw.size)
    clear R
    go_loopw [6, 7] (fun pl i wr => ∃ k P, k ≤ N ∧ i = .int .i64 (k : Nat) ∧ pl = .int .i64 (P : Nat) ∧ Hid (Ahead l k P) ∧ Below w2.heap.size w2 wr) (fun _ i _ => N - (intOf i).toNat)
    case atStart => exact ⟨0, 0, Nat.zero_le _, rfl, rfl, Lib.hid (ahead_zero l), Below.refl _ _⟩
    case round =>
      obtain ⟨k, P, hk, rfl, rfl, hA, hbr⟩ := hrel
      have hbwr : Below w.heap.size w wr := hbw2.trans (hbr.mono hbw2.size)
      by_cases hlt : k < N
      · rcases HR.out.below hbr (Nat.le_refl _) with h0 | ⟨g, o, rfl, hc⟩
        · have := congrArg List.length h0
          rw [List.length_map, HNN.out] at this
          simp at this
          omega
        · have e0 := hc k (by rw [List.length_map, HNN.out]; exact hlt)
          have hSk : ((stopsL l).map fun (x : Nat) => (x : Int))[k]?.getD 0 = ((stp l k : Nat) : Int) := by unfold stp; rw [List.getElem?_map, List.getElem?_eq_getElem (by rw [HNN.out]; exact hlt)]; rfl
          rw [hSk] at e0
          obtain ⟨S, hS⟩ : ∃ S, stp l k = S := ⟨_, rfl⟩
          rw [hS] at e0
          have hki : (k : Int) < (N : Int) := by omega
          have hk0 : (0 : Int) ≤ (k : Int) := by omega
          have HS := Lib.hid hS
          clear hc hSk hS
          by_cases hz : S = 0
          · subst hz
            have HA2 := Lib.hid (ahead_skip hA.out HS.out)
            go_wp2_with fail
            exact ⟨⟨k + 1, P, by omega, by go_num, rfl, HA2, hbr⟩, by simp [intOf]; omega⟩
          · have hz1 : ((S : Int) == 0) = false := beq_eq_false_iff_ne.2 (by omega)
            have HA2 := Lib.hid (ahead_go hA.out (by rw [HNN.out]; exact hlt) (by rw [HS.out]; exact hz))
            have hv := ahead_next hA.out (by rw [HNN.out]; exact hlt) (by rw [HS.out]; exact hz)
            have HNP := Lib.hid (fun w hT => HN.out (P : Nat) w hT)
            rw [hv, HS.out] at HNP
            rw [HS.out] at HA2
            clear hz hv
            go_wp2_with (first | (go_at_call 23; (with_reducible refine (HNP.out _ (HT.out.below hbwr (Nat.le_refl _))).mono ?_); rintro e w3 ⟨rfl, hb3⟩; have e3 := cellKeep e0 hb3))
            exact ⟨⟨k + 1, S, by omega, by go_num, rfl, HA2, nx hbr hb3⟩, by simp [intOf]; omega⟩
      · have hki : (N : Int) ≤ (k : Int) := by omega
        have HNE := Lib.hid (fun w hT => HN.out (t.size : Nat) w hT)
        rw [show nextV l (intoM l ((t.size : Nat) : Int)) = t.size by rw [← hlen]; exact next_end l] at HNE
        have HB0 := Lib.hid (fun w hT => HB.out 0 w hT)
        rw [back_zero l] at HB0
        go_wp2_with (first
          | (go_at_call 23; (with_reducible refine (HNE.out _ (HT.out.below hbwr (Nat.le_refl _))).mono ?_); rintro e w3 ⟨rfl, hb3⟩; have hbr3 := nx hbr hb3; have hbw3 := nx hbwr hb3)
          | (go_at_call 25; (with_reducible refine (HB0.out _ (HT.out.below hbw3 (Nat.le_refl _))).mono ?_); rintro e w4 ⟨rfl, hb4⟩; have hbr4 := nx hbr3 hb4; have hbw4 := nx hbw3 hb4))
        go_loopw [6, 8] (fun pl i wx => ∃ (j : Nat), j + 1 ≤ N ∧ i = .int .i64 ((j : Int) - 1) ∧ pl = .int .i64 (stp l j : Nat) ∧ Below w2.heap.size w2 wx) (fun _ i _ => (intOf i + 1).toNat)
        case atStart =>
          have HLA := Lib.hid (show stp l (N - 1) = t.size by unfold stp; rw [← HNN.out, stops_last, hlen])
          exact ⟨N - 1, by omega, congrArg (Value.int .i64) (by omega), congrArg (Value.int .i64) (by rw [HLA.out]), hbr4⟩
        case round =>
          obtain ⟨j, hj, rfl, rfl, hbx⟩ := hrel
          have hbwx : Below w.heap.size w wr := hbw2.trans (hbx.mono hbw2.size)
          by_cases hj0 : j = 0
          · subst hj0
            rw [show (((0 : Nat) : Int) - 1) = -1 from rfl]
            have HBF := Lib.hid (fun w hT => HB.out (stp l 0 : Nat) w hT)
            rw [show backV l (intoM l ((stp l 0 : Nat) : Int)) = 0 from back_first l] at HBF
            obtain ⟨S0, hS0⟩ : ∃ S, stp l 0 = S := ⟨_, rfl⟩
            rw [hS0] at HBF ⊢
            obtain ⟨-, hMq, hqs, hM1, hM2⟩ := into_find l c
            have hnear := into_near l c
            have hii := into_into l c
            have hcq : (clampN l c : Int) = min (max c 0) (t.size : Int) := by unfold clampN; rw [hlen]; omega
            obtain ⟨M, hM⟩ : ∃ M, atN l (intoM l c) = M := ⟨_, rfl⟩
            obtain ⟨q, hq⟩ : ∃ q, clampN l c = q := ⟨_, rfl⟩
            rw [hM] at hMq hM1 hM2 hnear hii
            rw [hq] at hMq hqs hM2 hcq hnear
            have HV := Lib.hid hcq.symm
            have HM := Lib.hid (And.intro hM1 hM2)
            have HN1 := Lib.hid (fun w hT => HN.out c w hT)
            have HN2 := Lib.hid (fun w hT => HN.out (M : Nat) w hT)
            have HB1 := Lib.hid (fun w hT => HB.out c w hT)
            have HB2 := Lib.hid (fun w hT => HB.out (M : Nat) w hT)
            rw [hii] at HN2 HB2
            obtain ⟨v1, hv1⟩ : ∃ v, nextV l (intoM l c) = v := ⟨_, rfl⟩
            obtain ⟨v2, hv2⟩ : ∃ v, backV l (intoM l c) = v := ⟨_, rfl⟩
            rw [hv1] at HN1 HN2
            rw [hv2] at HB1 HB2
            clear hS0 hM hq hcq hM1 hM2 hii hv1 hv2
            go_wp2_with (first
              | (go_at_call 25; (with_reducible refine (HBF.out _ (HT.out.below hbwx (Nat.le_refl _))).mono ?_); rintro e w5 ⟨rfl, hb5⟩; have hbw5 := nx hbwx hb5))
            go_loopw [9, 10] (fun v i wx => ∃ (q' k : Nat), v = .int .i64 (q' : Nat) ∧ i = .int .i64 (k : Nat) ∧ M ≤ q' ∧ Hid (q' + k = q) ∧ k ≤ 3 ∧ Below w.heap.size w wx) (fun _ i _ => 4 - (intOf i).toNat)
            case atStart => exact ⟨q, 0, congrArg (Value.int .i64) HV.out, rfl, hMq, Lib.hid rfl, by omega, hbw5⟩
            case round =>
              obtain ⟨q', k', rfl, rfl, h1, h2, h3, hb6⟩ := hrel
              have hk4 : (k' : Int) < 4 := by omega
              have hqq : q' ≤ q := by have := h2.out; omega
              by_cases he : q' = M
              · subst he
                have HBG := Lib.hid (c_begins t (by omega) (q' : Nat) true (by rw [HL.out]; exact begB_t (by omega) HM.out.1))
                go_wp2_with (first
                  | (go_at_call 30; (with_reducible refine (HBG.out _ (HT.out.below hb6 (Nat.le_refl _))).mono ?_); rintro e w7 ⟨rfl, hb7⟩; have hbw7 := nx hb6 hb7)
                  | (go_at_call 23; (with_reducible refine (HN1.out _ (HT.out.below hbw7 (Nat.le_refl _))).mono ?_); rintro e w8 ⟨rfl, hb8⟩; have hbw8 := nx hbw7 hb8)
                  | (go_at_call 23; (with_reducible refine (HN2.out _ (HT.out.below hbw8 (Nat.le_refl _))).mono ?_); rintro e w9 ⟨rfl, hb9⟩; have hbw9 := nx hbw8 hb9)
                  | (go_at_call 25; (with_reducible refine (HB1.out _ (HT.out.below hbw9 (Nat.le_refl _))).mono ?_); rintro e w10 ⟨rfl, hb10⟩; have hbw10 := nx hbw9 hb10)
                  | (go_at_call 25; (with_reducible refine (HB2.out _ (HT.out.below hbw10 (Nat.le_refl _))).mono ?_); rintro e w11 ⟨rfl, hb11⟩; have hbw11 := nx hbw10 hb11))
                go_ret
                exact ⟨rfl, hbw11⟩
              · have HBG := Lib.hid (c_begins t (by omega) (q' : Nat) false (by rw [HL.out]; exact begB_f (by omega) (HM.out.2 q' (by omega) hqq)))
                have HQ := Lib.hid (show ((q' : Int) - 1) = ((q' - 1 : Nat) : Int) by omega)
                have hq1 : 1 ≤ q' := by omega
                have hq3 : q' ≤ 3000 := by omega
                have HK3 := Lib.hid (show k' + 1 ≤ 3 by have := h2.out; omega)
                have HS2 := Lib.hid (show q' - 1 + (k' + 1) = q by have := h2.out; omega)
                go_wp2_with (first
                  | (go_at_call 30; (with_reducible refine (HBG.out _ (HT.out.below hb6 (Nat.le_refl _))).mono ?_); rintro e w7 ⟨rfl, hb7⟩; have hbw7 := nx hb6 hb7))
                exact ⟨⟨q' - 1, k' + 1, congrArg (Value.int .i64) HQ.out, by go_num, by omega, HS2, HK3.out, hbw7⟩, by simp [intOf]; omega⟩
          · obtain ⟨k', rfl⟩ : ∃ k', j = k' + 1 := ⟨j - 1, by omega⟩
            rw [show (((k' + 1 : Nat) : Int) - 1) = ((k' : Nat) : Int) by omega]
            rcases HR.out.below hbx (Nat.le_refl _) with h0 | ⟨g, o, rfl, hc⟩
            · have := congrArg List.length h0
              rw [List.length_map, HNN.out] at this
              simp at this
              omega
            · have e0 := hc k' (by rw [List.length_map, HNN.out]; omega)
              have hSk : ((stopsL l).map fun (x : Nat) => (x : Int))[k']?.getD 0 = ((stp l k' : Nat) : Int) := by unfold stp; rw [List.getElem?_map, List.getElem?_eq_getElem (by rw [HNN.out]; omega)]; rfl
              rw [hSk] at e0
              have HBK := Lib.hid (fun w hT => HB.out (stp l (k' + 1) : Nat) w hT)
              rw [show backV l (intoM l ((stp l (k' + 1) : Nat) : Int)) = stp l k' from back_at l k' (by rw [HNN.out]; omega)] at HBK
              obtain ⟨S1, hS1⟩ : ∃ S, stp l (k' + 1) = S := ⟨_, rfl⟩
              obtain ⟨S, hS⟩ : ∃ S, stp l k' = S := ⟨_, rfl⟩
              rw [hS1] at HBK ⊢
              rw [hS] at HBK e0
              have HS := Lib.hid hS
              have hki : (k' : Int) < (N : Int) := by omega
              have hk0 : (0 : Int) ≤ (k' : Int) := by omega
              clear hc hSk hS1 hS hj0
              go_wp2_with (first
                | (go_at_call 25; (with_reducible refine (HBK.out _ (HT.out.below hbwx (Nat.le_refl _))).mono ?_); rintro e w5 ⟨rfl, hb5⟩; have e5 := cellKeep e0 hb5))
              exact ⟨⟨k', by omega, rfl, congrArg (Value.int .i64) (by rw [HS.out]), nx hbx hb5⟩, by simp only [intOf]; omega⟩
  · obtain ⟨t, rfl⟩ : ∃ t, t = s := ⟨_, rfl⟩
    have hx : t.size ≤ 3000 := by omega
    have h3i : (t.size : Int) ≤ 3000 := by omega
    go_wp2_with (first | (go_at_call 22; (with_reducible refine HAW.out.mono ?_); rintro e w1 ⟨rfl, hb1⟩))
    clear h3 h3i
    obtain ⟨l, hl⟩ : ∃ l, bs t = l := ⟨_, rfl⟩
    have hlen : l.length = t.size := by rw [← hl, size_bs]
    have HST := Lib.hid (stops_any t hx)
    have HN := Lib.hid (fun c w hT => next_any t (by omega) c w hT)
    have HB := Lib.hid (fun c w hT => kback_any t (by omega) c w hT)
    rw [hl] at HST HN HB
    have hsc := stops_count l
    have hcl := countN_le l
    obtain ⟨N, hN⟩ : ∃ N, (stopsL l).length = N := ⟨_, rfl⟩
    rw [hN] at HST hsc
    have hN1 : 1 ≤ N := by rw [← hN]; exact stops_ne l
    have HNN := Lib.hid hN
    have HL := Lib.hid hl
    have hbw : Below w.heap.size w w1 := hb1
    have HTW := Lib.hid (HT.out.below hb1 (Nat.le_refl _))
    have hN3 : N ≤ 3001 := by omega
    clear hl hN hcl hsc
    go_wp2_with (first | (go_at_call 29; (with_reducible refine (HST.out _ HTW.out).mono ?_); rintro e w2 ⟨ao, ca, rfl, R, hb2⟩))
    have HR := Lib.hid R
    have hbw2 : Below w.heap.size w w2 := hbw.trans (hb2.mono hbw.size)
    clear R
    go_loopw [6, 7] (fun pl i wr => ∃ k P, k ≤ N ∧ i = .int .i64 (k : Nat) ∧ pl = .int .i64 (P : Nat) ∧ Hid (Ahead l k P) ∧ Below w2.heap.size w2 wr) (fun _ i _ => N - (intOf i).toNat)
    case atStart => exact ⟨0, 0, Nat.zero_le _, rfl, rfl, Lib.hid (ahead_zero l), Below.refl _ _⟩
    case round =>
      obtain ⟨k, P, hk, rfl, rfl, hA, hbr⟩ := hrel
      have hbwr : Below w.heap.size w wr := hbw2.trans (hbr.mono hbw2.size)
      by_cases hlt : k < N
      · rcases HR.out.below hbr (Nat.le_refl _) with h0 | ⟨g, o, rfl, hc⟩
        · have := congrArg List.length h0
          rw [List.length_map, HNN.out] at this
          simp at this
          omega
        · have e0 := hc k (by rw [List.length_map, HNN.out]; exact hlt)
          have hSk : ((stopsL l).map fun (x : Nat) => (x : Int))[k]?.getD 0 = ((stp l k : Nat) : Int) := by unfold stp; rw [List.getElem?_map, List.getElem?_eq_getElem (by rw [HNN.out]; exact hlt)]; rfl
          rw [hSk] at e0
          obtain ⟨S, hS⟩ : ∃ S, stp l k = S := ⟨_, rfl⟩
          rw [hS] at e0
          have hki : (k : Int) < (N : Int) := by omega
          have hk0 : (0 : Int) ≤ (k : Int) := by omega
          have HS := Lib.hid hS
          clear hc hSk hS
          by_cases hz : S = 0
          · subst hz
            have HA2 := Lib.hid (ahead_skip hA.out HS.out)
            go_wp2_with fail
            exact ⟨⟨k + 1, P, by omega, by go_num, rfl, HA2, hbr⟩, by simp [intOf]; omega⟩
          · have hz1 : ((S : Int) == 0) = false := beq_eq_false_iff_ne.2 (by omega)
            have HA2 := Lib.hid (ahead_go hA.out (by rw [HNN.out]; exact hlt) (by rw [HS.out]; exact hz))
            have hv := ahead_next hA.out (by rw [HNN.out]; exact hlt) (by rw [HS.out]; exact hz)
            have HNP := Lib.hid (fun w hT => HN.out (P : Nat) w hT)
            rw [hv, HS.out] at HNP
            rw [HS.out] at HA2
            clear hz hv
            go_wp2_with (first | (go_at_call 23; (with_reducible refine (HNP.out _ (HT.out.below hbwr (Nat.le_refl _))).mono ?_); rintro e w3 ⟨rfl, hb3⟩; have e3 := cellKeep e0 hb3))
            exact ⟨⟨k + 1, S, by omega, by go_num, rfl, HA2, nx hbr hb3⟩, by simp [intOf]; omega⟩
      · have hki : (N : Int) ≤ (k : Int) := by omega
        have HNE := Lib.hid (fun w hT => HN.out (t.size : Nat) w hT)
        rw [show nextV l (intoM l ((t.size : Nat) : Int)) = t.size by rw [← hlen]; exact next_end l] at HNE
        have HB0 := Lib.hid (fun w hT => HB.out 0 w hT)
        rw [back_zero l] at HB0
        go_wp2_with (first
          | (go_at_call 23; (with_reducible refine (HNE.out _ (HT.out.below hbwr (Nat.le_refl _))).mono ?_); rintro e w3 ⟨rfl, hb3⟩; have hbr3 := nx hbr hb3; have hbw3 := nx hbwr hb3)
          | (go_at_call 25; (with_reducible refine (HB0.out _ (HT.out.below hbw3 (Nat.le_refl _))).mono ?_); rintro e w4 ⟨rfl, hb4⟩; have hbr4 := nx hbr3 hb4; have hbw4 := nx hbw3 hb4))
        go_loopw [6, 8] (fun pl i wx => ∃ (j : Nat), j + 1 ≤ N ∧ i = .int .i64 ((j : Int) - 1) ∧ pl = .int .i64 (stp l j : Nat) ∧ Below w2.heap.size w2 wx) (fun _ i _ => (intOf i + 1).toNat)
        case atStart =>
          have HLA := Lib.hid (show stp l (N - 1) = t.size by unfold stp; rw [← HNN.out, stops_last, hlen])
          exact ⟨N - 1, by omega, congrArg (Value.int .i64) (by omega), congrArg (Value.int .i64) (by rw [HLA.out]), hbr4⟩
        case round =>
          obtain ⟨j, hj, rfl, rfl, hbx⟩ := hrel
          have hbwx : Below w.heap.size w wr := hbw2.trans (hbx.mono hbw2.size)
          by_cases hj0 : j = 0
          · subst hj0
            rw [show (((0 : Nat) : Int) - 1) = -1 from rfl]
            have HBF := Lib.hid (fun w hT => HB.out (stp l 0 : Nat) w hT)
            rw [show backV l (intoM l ((stp l 0 : Nat) : Int)) = 0 from back_first l] at HBF
            obtain ⟨S0, hS0⟩ : ∃ S, stp l 0 = S := ⟨_, rfl⟩
            rw [hS0] at HBF ⊢
            obtain ⟨-, hMq, hqs, hM1, hM2⟩ := into_find l c
            have hnear := into_near l c
            have hii := into_into l c
            have hcq : (clampN l c : Int) = min (max c 0) (t.size : Int) := by unfold clampN; rw [hlen]; omega
            obtain ⟨M, hM⟩ : ∃ M, atN l (intoM l c) = M := ⟨_, rfl⟩
            obtain ⟨q, hq⟩ : ∃ q, clampN l c = q := ⟨_, rfl⟩
            rw [hM] at hMq hM1 hM2 hnear hii
            rw [hq] at hMq hqs hM2 hcq hnear
            have HV := Lib.hid hcq.symm
            have HM := Lib.hid (And.intro hM1 hM2)
            have HN1 := Lib.hid (fun w hT => HN.out c w hT)
            have HN2 := Lib.hid (fun w hT => HN.out (M : Nat) w hT)
            have HB1 := Lib.hid (fun w hT => HB.out c w hT)
            have HB2 := Lib.hid (fun w hT => HB.out (M : Nat) w hT)
            rw [hii] at HN2 HB2
            obtain ⟨v1, hv1⟩ : ∃ v, nextV l (intoM l c) = v := ⟨_, rfl⟩
            obtain ⟨v2, hv2⟩ : ∃ v, backV l (intoM l c) = v := ⟨_, rfl⟩
            rw [hv1] at HN1 HN2
            rw [hv2] at HB1 HB2
            clear hS0 hM hq hcq hM1 hM2 hii hv1 hv2
            go_wp2_with (first
              | (go_at_call 25; (with_reducible refine (HBF.out _ (HT.out.below hbwx (Nat.le_refl _))).mono ?_); rintro e w5 ⟨rfl, hb5⟩; have hbw5 := nx hbwx hb5))
            go_loopw [9, 10] (fun v i wx => ∃ (q' k : Nat), v = .int .i64 (q' : Nat) ∧ i = .int .i64 (k : Nat) ∧ M ≤ q' ∧ Hid (q' + k = q) ∧ k ≤ 3 ∧ Below w.heap.size w wx) (fun _ i _ => 4 - (intOf i).toNat)
            case atStart => exact ⟨q, 0, congrArg (Value.int .i64) HV.out, rfl, hMq, Lib.hid rfl, by omega, hbw5⟩
            case round =>
              obtain ⟨q', k', rfl, rfl, h1, h2, h3, hb6⟩ := hrel
              have hk4 : (k' : Int) < 4 := by omega
              have hqq : q' ≤ q := by have := h2.out; omega
              by_cases he : q' = M
              · subst he
                have HBG := Lib.hid (c_begins t (by omega) (q' : Nat) true (by rw [HL.out]; exact begB_t (by omega) HM.out.1))
                go_wp2_with (first
                  | (go_at_call 30; (with_reducible refine (HBG.out _ (HT.out.below hb6 (Nat.le_refl _))).mono ?_); rintro e w7 ⟨rfl, hb7⟩; have hbw7 := nx hb6 hb7)
                  | (go_at_call 23; (with_reducible refine (HN1.out _ (HT.out.below hbw7 (Nat.le_refl _))).mono ?_); rintro e w8 ⟨rfl, hb8⟩; have hbw8 := nx hbw7 hb8)
                  | (go_at_call 23; (with_reducible refine (HN2.out _ (HT.out.below hbw8 (Nat.le_refl _))).mono ?_); rintro e w9 ⟨rfl, hb9⟩; have hbw9 := nx hbw8 hb9)
                  | (go_at_call 25; (with_reducible refine (HB1.out _ (HT.out.below hbw9 (Nat.le_refl _))).mono ?_); rintro e w10 ⟨rfl, hb10⟩; have hbw10 := nx hbw9 hb10)
                  | (go_at_call 25; (with_reducible refine (HB2.out _ (HT.out.below hbw10 (Nat.le_refl _))).mono ?_); rintro e w11 ⟨rfl, hb11⟩; have hbw11 := nx hbw10 hb11))
                go_ret
                exact ⟨rfl, hbw11⟩
              · have HBG := Lib.hid (c_begins t (by omega) (q' : Nat) false (by rw [HL.out]; exact begB_f (by omega) (HM.out.2 q' (by omega) hqq)))
                have HQ := Lib.hid (show ((q' : Int) - 1) = ((q' - 1 : Nat) : Int) by omega)
                have hq1 : 1 ≤ q' := by omega
                have hq3 : q' ≤ 3000 := by omega
                have HK3 := Lib.hid (show k' + 1 ≤ 3 by have := h2.out; omega)
                have HS2 := Lib.hid (show q' - 1 + (k' + 1) = q by have := h2.out; omega)
                go_wp2_with (first
                  | (go_at_call 30; (with_reducible refine (HBG.out _ (HT.out.below hb6 (Nat.le_refl _))).mono ?_); rintro e w7 ⟨rfl, hb7⟩; have hbw7 := nx hb6 hb7))
                exact ⟨⟨q' - 1, k' + 1, congrArg (Value.int .i64) HQ.out, by go_num, by omega, HS2, HK3.out, hbw7⟩, by simp [intOf]; omega⟩
          · obtain ⟨k', rfl⟩ : ∃ k', j = k' + 1 := ⟨j - 1, by omega⟩
            rw [show (((k' + 1 : Nat) : Int) - 1) = ((k' : Nat) : Int) by omega]
            rcases HR.out.below hbx (Nat.le_refl _) with h0 | ⟨g, o, rfl, hc⟩
            · have := congrArg List.length h0
              rw [List.length_map, HNN.out] at this
              simp at this
              omega
            · have e0 := hc k' (by rw [List.length_map, HNN.out]; omega)
              have hSk : ((stopsL l).map fun (x : Nat) => (x : Int))[k']?.getD 0 = ((stp l k' : Nat) : Int) := by unfold stp; rw [List.getElem?_map, List.getElem?_eq_getElem (by rw [HNN.out]; omega)]; rfl
              rw [hSk] at e0
              have HBK := Lib.hid (fun w hT => HB.out (stp l (k' + 1) : Nat) w hT)
              rw [show backV l (intoM l ((stp l (k' + 1) : Nat) : Int)) = stp l k' from back_at l k' (by rw [HNN.out]; omega)] at HBK
              obtain ⟨S1, hS1⟩ : ∃ S, stp l (k' + 1) = S := ⟨_, rfl⟩
              obtain ⟨S, hS⟩ : ∃ S, stp l k' = S := ⟨_, rfl⟩
              rw [hS1] at HBK ⊢
              rw [hS] at HBK e0
              have HS := Lib.hid hS
              have hki : (k' : Int) < (N : Int) := by omega
              have hk0 : (0 : Int) ≤ (k' : Int) := by omega
              clear hc hSk hS1 hS hj0
              go_wp2_with (first
                | (go_at_call 25; (with_reducible refine (HBK.out _ (HT.out.below hbwx (Nat.le_refl _))).mono ?_); rintro e w5 ⟨rfl, hb5⟩; have e5 := cellKeep e0 hb5))
              exact ⟨⟨k', by omega, rfl, congrArg (Value.int .i64) (by rw [HS.out]), nx hbx hb5⟩, by simp only [intOf]; omega⟩
end Go.Proofs.YtkknmbkfiiidmaaDoor
