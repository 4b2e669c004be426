/-
  The walk of LinesAll: all lines, counted, told, one by one, as texts.
-/
import Derived.Test.YtebmjmohhpkonaaDoorApart
import Derived.Test.YtebmjmohhpkonaaDoorLTold
import Derived.Test.YtebmjmohhpkonaaDoorLCount
import Derived.Test.YtebmjmohhpkonaaDoorLLine
import Derived.Test.YtebmjmohhpkonaaDoorLWorks
import Derived.Test.YtebmjmohhpkonaaDoorLRefSplit
import Derived.Deep.DeepCutAuto
namespace Go.Proofs.YtebmjmohhpkonaaDoor
open Go.RowKit

/-- the document's lines, with their room -/
theorem refall_row (s : ByteArray) (hs : s.size ≤ 1048576) (w : World) :
    Calls Tryd.prog 19 #[.string s] w fun e w' => ∃ g cap, e = .returned (.slice (some ⟨g, 0, none⟩) (lnN (bs s)) cap) ∧ lnN (bs s) ≤ cap ∧ LnRow w' g (lnN (bs s)) (lnX (bs s)) ∧ g < w'.heap.size ∧ Below w.heap.size w w' := by
  refine (refall_any s hs w).mono ?_
  rintro e w' ⟨v, rfl, ho, hb⟩
  have hc : ∀ g cap, v = .slice (some ⟨g, 0, none⟩) (lnN (bs s)) cap → lnN (bs s) ≤ cap := by
    intro g cap hv
    rcases ho.2 with ⟨h, _⟩ | ⟨g', cap', cur, h, _, _, h3, _⟩
    · rw [h] at hv; cases hv
    · rw [h] at hv; injection hv with _ _ e3; omega
  have hlt := ho.lt
  obtain ⟨ao, cap, rfl, hl⟩ := LinesAt.owned ho
  obtain ⟨g, rfl, hr⟩ := LinesAt.row hl
  exact ⟨g, cap, rfl, hc g cap rfl, hr, (hlt g rfl).2, hb⟩
theorem LnRow.less {w : World} {g n q : Nat} {f : Nat → Nat × Nat × Nat} (h : LnRow w g n f) (hq : q ≤ n) : LnRow w g q f := fun k hk => h k (by omega)
theorem told_row (s : ByteArray) (hs : s.size ≤ 1048576) (m : Nat) (hm1 : 1 ≤ m) (hm2 : m ≤ 140737488351232) (w : World) (hT : Tabs w) :
    Calls Tryd.prog 22 #[.string s, .int .i64 (m : Nat)] w fun e w' => ∃ g cap, e = .returned (.slice (some ⟨g, 0, none⟩) (min m (lnN (bs s))) cap) ∧ LnRow w' g (min m (lnN (bs s))) (lnX (bs s)) ∧ Below w.heap.size w w' := by
  refine (told_any s hs m hm1 hm2 w hT).mono ?_
  rintro e w' ⟨n, g, cap, rfl, rfl, ho, hb⟩
  exact ⟨g, cap, rfl, LnRow.owned ho, hb⟩

theorem rows_ne {W W' : World} {base : Nat} {e : TypeId} {s n : Nat} {v v' : Value} {xs xs' : List Value} (h : HRow W base e s v n xs) (h' : HRow W' W.heap.size e s v' n xs') : ∀ g, v.ownBlock = some g → v'.ownBlock ≠ some g :=
  fun g e1 e2 => by have := (h.lt g e1).2; have := (h'.lt g e2).1; omega
theorem own_head {w : World} {base : Nat} {e : TypeId} {v : Value} {n : Nat} {xs : List Value} (h : w.ownsRow base e 1 v n xs) (hn : 1 ≤ n) : ∃ g cap, v = .slice (some ⟨g, 0, none⟩) n cap := by
  obtain ⟨g, cap, e, _⟩ := (HRow.of_own h).form1 hn
  exact ⟨g, cap, e⟩

set_option maxRecDepth 100000 in
set_option maxHeartbeats 8000000 in
theorem linesAll_any (s : ByteArray) (hs : s.size ≤ 1048576) (fw : Int) (hf : 0 ≤ fw ∧ fw ≤ 255) (w : World) (hT : Tabs w) :
    Calls Tryd.prog 7 #[.string s, .int .u8 fw] w fun e w' => e = .returned (.bool true) ∧ Below w.heap.size w w' := by
  have HT := Lib.hid hT
  have HW := Lib.hid works_any
  have HRA := Lib.hid (fun w => refall_row s hs w)
  have HC := Lib.hid (fun w hT => lcount_any s (by omega) w hT)
  have HRS := Lib.hid (fun w => refsplit_any s hs w)
  have HS := Lib.hid (fun w hT => lsplit_any s (by omega) w hT)
  have HL1 := Lib.hid (fun k hk w hT => lline_at s (by omega) k hk w hT)
  have HL2 := Lib.hid (fun c hc w hT => lline_out s (by omega) c hc w hT)
  have hN := lnN_le (bs s)
  have hP := lnN_pos (bs s)
  rw [← size_bs] at hN
  obtain ⟨f, rfl⟩ : ∃ f : Nat, fw = (f : Int) := ⟨fw.toNat, by omega⟩
  have HT9 := Lib.hid (fun w hT => told_row s hs (lnN (bs s) + 9) (by omega) (by omega) w hT)
  obtain ⟨m, hm⟩ : ∃ m, m = 1 + f % (lnN (bs s) + 1) := ⟨_, rfl⟩
  have hml : m ≤ lnN (bs s) + 1 := by have := Nat.mod_lt f (show 0 < lnN (bs s) + 1 by omega); omega
  have hm1 : 1 ≤ m := by omega
  have HTM := Lib.hid (fun w hT => told_row s hs m hm1 (by omega) w hT)
  have hmi : (1 : Int) + (f : Int) % ((lnN (bs s) : Int) + 1) = (m : Int) := by rw [hm]; push_cast; rfl
  rw [show min (lnN (bs s) + 9) (lnN (bs s)) = lnN (bs s) by omega] at HT9
  have hfl : f ≤ 255 := by omega
  have HFX := Lib.hid (lnX_fits (bs s))
  clear hT hf hm
  obtain ⟨n, hn⟩ : ∃ n, lnN (bs s) = n := ⟨_, rfl⟩
  rw [hn] at HRA HC HRS HS HL2 hN hP HT9 HTM hmi hml
  have HNN := Lib.hid hn
  rw [Int.natCast_add, show ((9 : Nat) : Int) = 9 from rfl] at HT9
  obtain ⟨q, hq⟩ : ∃ q, min m n = q := ⟨_, rfl⟩
  rw [hq] at HTM
  have hqn : q ≤ n := by omega
  have hqi : min (m : Int) (n : Int) = (q : Int) := by omega
  have hn1 : n ≤ 1048577 := by omega
  have hnn : (((n : Nat) : Int) != (n : Int)) = false := by simp
  clear hn hq hN hm1
  go_enter Tryd.func7, Tryd.ntmps7
  go_upto_region 3 with (first
    | (go_at_call 19; (with_reducible refine (HRA.out _).mono ?_); rintro e w1 ⟨g1, c1, rfl, hc1, hr1, hg1, hb1⟩))
  have R1 := Lib.hid hr1
  have hqc : q ≤ c1 := by omega
  have hqci : (q : Int) ≤ (c1 : Int) := by omega
  have hq0 : (0 : Int) ≤ (q : Int) := by omega
  clear hr1
  have hw9 : IntKind.i64.wrap ((n : Int) + 9) = (n : Int) + 9 := IntWalk.i64_in _ (by omega)
  have hB1 : Below w.heap.size w w1.drew := hb1.drew
  have R1d : Hid (LnRow w1.drew g1 n (lnX (bs s))) := R1
  have S0 : Below w1.drew.heap.size w1.drew w1.drew := Below.refl _ _
  have HSM := Lib.hid (fun a b c d k hk w h1 h2 => same_any a b c d k hk (lnX (bs s)) w h1 h2)
  have HQN := Lib.hid hqn
  have hqb : q ≤ 140737488351232 := by omega
  have hnb : n ≤ 140737488351232 := by omega
  clear hqn
  go_cut [52] (fun c wx => c = .bool false ∧ Below w1.drew.heap.size w1.drew wx)
  case first =>
    skip
    go_region_held_law (fun w' => Below w1.drew.heap.size w1.drew w') (first | (with_reducible assumption))
      (first
        | (go_at_call 20; (with_reducible refine (HC.out _ (HT.out.below hB1 (Nat.le_refl _))).mono ?_); rintro e w2 ⟨rfl, hb2⟩; have S2 := nx S0 hb2; have hB2 := nx hB1 hb2)
        | (go_at_call 22; (with_reducible refine (HT9.out _ (HT.out.below hB2 (Nat.le_refl _))).mono ?_); rintro e w3 ⟨g3, c3, rfl, hr3, hb3⟩; have R3 := Lib.hid hr3; clear hr3; have S3 := nx S2 hb3; have hB3 := nx hB2 hb3)
        | (go_at_call 21; (with_reducible refine (HSM.out _ _ _ _ n hnb _ R3.out (R1d.out.below S3)).mono ?_); rintro e w4 ⟨rfl, hb4⟩; have S4 := nx S3 hb4; have hB4 := nx hB3 hb4)
        | (go_at_call 22; (with_reducible refine (HTM.out _ (HT.out.below hB4 (Nat.le_refl _))).mono ?_); rintro e w5 ⟨g5, c5, rfl, hr5, hb5⟩; have R5 := Lib.hid hr5; clear hr5; have S5 := nx S4 hb5; have hB5 := nx hB4 hb5)
        | (go_at_call 21; (with_reducible refine (HSM.out _ _ _ _ q hqb _ R5.out ((R1d.out.below S5).less HQN.out)).mono ?_); rintro e w6 ⟨rfl, hb6⟩; have S6 := nx S5 hb6; have hB6 := nx hB5 hb6))
    all_goals (go_wp2_with fail; go_meet; exact ⟨rfl, S6⟩)
  case rest =>
    obtain ⟨rfl, S6⟩ := hcut
    have HR1 := Lib.hid (R1d.out.below S6)
    have hB6 := nx hB1 S6
    obtain ⟨w6, hw6⟩ : ∃ w6, wc = w6 := ⟨_, rfl⟩
    rw [hw6] at HR1 hB6 ⊢
    clear hw6 S6 R1 R1d S0 hB1 HT9 HTM HSM HQN HRA HC hqc hqci hq0 hqi hw9
    go_wp2_with fail
    go_loopw [7] (fun i wr => ∃ c : Int, i = .int .i64 c ∧ -1 ≤ c ∧ c ≤ (n : Int) + 1 ∧ Below w6.heap.size w6 wr) (fun i _ => ((n : Int) + 1 - intOf i).toNat)
    case atStart => exact ⟨-1, rfl, by omega, by omega, Below.refl _ _⟩
    case round =>
      obtain ⟨c, rfl, hc1, hc2, hb⟩ := hrel
      have hbw := nx hB6 hb
      by_cases h1 : c ≤ n
      · by_cases h2 : c < 200
        · by_cases h3 : 0 ≤ c ∧ c < n
          · obtain ⟨k, rfl⟩ : ∃ k : Nat, c = (k : Int) := ⟨c.toNat, by omega⟩
            have hk : k < n := by omega
            have hk0 : (0 : Int) ≤ (k : Int) := by omega
            have hki : (k : Int) < (n : Int) := by omega
            obtain ⟨d0, d1, d2⟩ := HR1.out k hk
            have HLk := Lib.hid (fun w hT => HL1.out k (by rw [HNN.out]; exact hk) w hT)
            rw [show lnA (bs s) k = (lnX (bs s) k).1 from rfl, show lnB (bs s) k = (lnX (bs s) k).2.1 from rfl, show lnE (bs s) k = (lnX (bs s) k).2.2 from rfl] at HLk
            obtain ⟨A, hA⟩ : ∃ A, (lnX (bs s) k).1 = A := ⟨_, rfl⟩
            obtain ⟨B, hB⟩ : ∃ A, (lnX (bs s) k).2.1 = A := ⟨_, rfl⟩
            obtain ⟨E, hE⟩ : ∃ A, (lnX (bs s) k).2.2 = A := ⟨_, rfl⟩
            rw [hA] at d0
            rw [hB] at d1
            rw [hE] at d2
            rw [hA, hB, hE] at HLk
            clear hA hB hE h3
            have eqP := fun (w : World) => eq_piece (A : Nat) (B : Nat) (A : Nat) (B : Nat) w
            have gP := guard_piece
            go_wp2_with (first
              | (go_at_call 23; (with_reducible refine (HLk.out _ (HT.out.below hbw (Nat.le_refl _))).mono ?_); rintro e wl ⟨rfl, hbl⟩; have hbq : Below w6.heap.size w6 ((wl.alloc (.cells #[.int .i64 (A : Nat), .int .i64 (B : Nat)] 41)).alloc (.cells #[.int .i64 0, .int .i64 0, .int .i64 0] 45)) := al (al (nx hb hbl) _) _; have x0 := cellKeep d0 hbq; have x1 := cellKeep d1 hbq; have x2 := cellKeep d2 hbq))
            exact ⟨⟨(k : Int) + 1, rfl, by omega, by omega, al (al (nx hb hbl) _) _⟩, by simp [intOf]; omega⟩
          · have hco : c < 0 ∨ (n : Int) ≤ c := by omega
            have HLk := Lib.hid (fun w hT => HL2.out c hco w hT)
            have eqP := fun (w : World) => eq_piece 0 0 0 0 w
            have gP := guard_piece
            have hg : 0 ≤ c → decide (c < (n : Int)) = false := fun h => decide_eq_false (by omega)
            clear hco
            by_cases h4 : 0 ≤ c
            · have hg := hg h4
              clear h3
              go_wp2_with (first
                | (go_at_call 23; (with_reducible refine (HLk.out _ (HT.out.below hbw (Nat.le_refl _))).mono ?_); rintro e wl ⟨rfl, hbl⟩))
              exact ⟨⟨c + 1, rfl, by omega, by omega, al (al (nx hb hbl) _) _⟩, by simp [intOf]; omega⟩
            · have hg4 : decide (0 ≤ c) = false := decide_eq_false h4
              clear h3 hg
              go_wp2_with (first
                | (go_at_call 23; (with_reducible refine (HLk.out _ (HT.out.below hbw (Nat.le_refl _))).mono ?_); rintro e wl ⟨rfl, hbl⟩))
              exact ⟨⟨c + 1, rfl, by omega, by omega, al (al (nx hb hbl) _) _⟩, by simp [intOf]; omega⟩
        · have hg2 : decide (c < 200) = false := decide_eq_false h2
          clear HR1 HL1 HL2 hb hc1 hc2
          obtain ⟨W, hW⟩ : ∃ W, wr = W := ⟨_, rfl⟩
          rw [hW] at hbw ⊢
          clear hW
          go_wp2_with (first
            | (go_at_call 24; (with_reducible refine (HRS.out _).mono ?_); rintro e wa ⟨va, rfl, hoa, hba⟩; have hbA := nx hbw hba; obtain ⟨ga, ca, rfl⟩ := own_head hoa hP; have TA := Lib.hid (StrAt.owned hoa); clear hoa)
            | (go_at_call 25; (with_reducible refine (HS.out _ (HT.out.below hbA (Nat.le_refl _))).mono ?_); rintro e wb ⟨gb, cb, rfl, hob, hbb⟩; have hbB := nx hbA hbb; have TB := Lib.hid (StrAt.owned hob); have RB := Lib.hid (HRow.clip hob); clear hob)
            | (go_at_call 25; (with_reducible refine (HS.out _ (HT.out.below hbB (Nat.le_refl _))).mono ?_); rintro e wc ⟨gc, cc, rfl, hoc, hbc⟩; have hbC := nx hbB hbc; have TC := Lib.hid (StrAt.owned hoc); have RC := Lib.hid (HRow.clip hoc); clear hoc; have TA3 := Lib.hid ((TA.out.below hbb).below hbc); have TB3 := Lib.hid (TB.out.below hbc); have HE1 := Lib.hid (eqtexts_any gb ga n ca n (by omega) (lnT s) wc TB3.out TA3.out))
            | (go_at_call 26; (with_reducible refine HE1.out.mono ?_); rintro e wd ⟨rfl, hbd⟩; have hbD := nx hbC hbd; have HE2 := Lib.hid (eqtexts_any gc ga n ca n (by omega) (lnT s) wd (TC.out.below hbd) (TA3.out.below hbd)))
            | (go_at_call 26; (with_reducible refine HE2.out.mono ?_); rintro e we ⟨rfl, hbe⟩; have hbE := nx hbD hbe; have HAP := Lib.hid (apart_two n (by omega) _ _ _ _ w.heap.size we hbE.size ((((RB.out.below hbc (Nat.le_refl _)).below hbd (Nat.le_refl _)).below hbe (Nat.le_refl _)).lower hbA.size) (((RC.out.below hbd (Nat.le_refl _)).below hbe (Nat.le_refl _)).lower hbB.size) (rows_ne RB.out RC.out)))
            | (go_at_call 27; (with_reducible refine HAP.out.mono ?_); rintro e wf ⟨rfl, hbf⟩; have hbF := hbE.trans hbf)
            | (go_at_call 13; (with_reducible refine (HW.out _ (HT.out.below hbF (Nat.le_refl _))).mono ?_); rintro e wg ⟨rfl, hbg⟩))
          go_ret
          exact ⟨rfl, nx hbF hbg⟩
      · have hg1 : decide (c ≤ (n : Int)) = false := decide_eq_false h1
        clear HR1 HL1 HL2 hb hc1 hc2
        obtain ⟨W, hW⟩ : ∃ W, wr = W := ⟨_, rfl⟩
        rw [hW] at hbw ⊢
        clear hW
        go_wp2_with (first
          | (go_at_call 24; (with_reducible refine (HRS.out _).mono ?_); rintro e wa ⟨va, rfl, hoa, hba⟩; have hbA := nx hbw hba; obtain ⟨ga, ca, rfl⟩ := own_head hoa hP; have TA := Lib.hid (StrAt.owned hoa); clear hoa)
          | (go_at_call 25; (with_reducible refine (HS.out _ (HT.out.below hbA (Nat.le_refl _))).mono ?_); rintro e wb ⟨gb, cb, rfl, hob, hbb⟩; have hbB := nx hbA hbb; have TB := Lib.hid (StrAt.owned hob); have RB := Lib.hid (HRow.clip hob); clear hob)
          | (go_at_call 25; (with_reducible refine (HS.out _ (HT.out.below hbB (Nat.le_refl _))).mono ?_); rintro e wc ⟨gc, cc, rfl, hoc, hbc⟩; have hbC := nx hbB hbc; have TC := Lib.hid (StrAt.owned hoc); have RC := Lib.hid (HRow.clip hoc); clear hoc; have TA3 := Lib.hid ((TA.out.below hbb).below hbc); have TB3 := Lib.hid (TB.out.below hbc); have HE1 := Lib.hid (eqtexts_any gb ga n ca n (by omega) (lnT s) wc TB3.out TA3.out))
          | (go_at_call 26; (with_reducible refine HE1.out.mono ?_); rintro e wd ⟨rfl, hbd⟩; have hbD := nx hbC hbd; have HE2 := Lib.hid (eqtexts_any gc ga n ca n (by omega) (lnT s) wd (TC.out.below hbd) (TA3.out.below hbd)))
          | (go_at_call 26; (with_reducible refine HE2.out.mono ?_); rintro e we ⟨rfl, hbe⟩; have hbE := nx hbD hbe; have HAP := Lib.hid (apart_two n (by omega) _ _ _ _ w.heap.size we hbE.size ((((RB.out.below hbc (Nat.le_refl _)).below hbd (Nat.le_refl _)).below hbe (Nat.le_refl _)).lower hbA.size) (((RC.out.below hbd (Nat.le_refl _)).below hbe (Nat.le_refl _)).lower hbB.size) (rows_ne RB.out RC.out)))
          | (go_at_call 27; (with_reducible refine HAP.out.mono ?_); rintro e wf ⟨rfl, hbf⟩; have hbF := hbE.trans hbf)
          | (go_at_call 13; (with_reducible refine (HW.out _ (HT.out.below hbF (Nat.le_refl _))).mono ?_); rintro e wg ⟨rfl, hbg⟩))
        go_ret
        exact ⟨rfl, nx hbF hbg⟩
end Go.Proofs.YtebmjmohhpkonaaDoor
