/-
  The document's Wrong and goes: contracts.
-/
import Derived.Test.YtfoppbignompkaaDoorCurB
import Derived.Deep.RegionHeldLaw
import Derived.Deep.AppendLies
namespace Go.Proofs.YtfoppbignompkaaDoor
open Go.RowKit

theorem refgoes_any (p A O I : Int) (hp : 0 ≤ p) (hp2 : p ≤ 9223372036854775807) (hA : 0 ≤ A) (hO : 0 ≤ O) (hI : 0 ≤ I) (hAO : A + O ≤ 9223372036854775807) (hAI : A + I ≤ 9223372036854775807) (w : World) :
    Calls Tryd.prog 44 #[.int .i64 p, .agg #[.int .i64 A, .int .i64 O, .int .i64 I]] w fun e w' => e = .returned (.tuple #[.int .i64 (goesV p A O I).1, .bool (goesV p A O I).2]) ∧ Below w.heap.size w w' := by
  obtain ⟨d0, d1, d2⟩ := box3 w 24 (.int .i64 A) (.int .i64 O) (.int .i64 I)
  by_cases h1 : p < A
  · rw [goesV_1 h1]
    go_enter Tryd.func44, Tryd.ntmps44
    go_wp2_with fail
    go_ret2
    exact ⟨rfl, al (Below.refl _ _) _⟩
  · have h1d : decide (p < A) = false := decide_eq_false h1
    by_cases h2 : A + O < p
    · rw [goesV_2 h1 h2]
      have h2d : decide (A + O < p) = true := decide_eq_true h2
      have hw1 : IntKind.i64.wrap (9223372036854775807 - I) = 9223372036854775807 - I := IntWalk.i64_in _ (by omega)
      have hb0 : Below w.heap.size w (w.alloc (.cells #[.int .i64 A, .int .i64 O, .int .i64 I] 24)) := al (Below.refl _ _) _
      go_enter Tryd.func44, Tryd.ntmps44
      go_wp2_with fail
      go_quiet (fail)
      go_wp2_with fail
      go_ret2
      exact ⟨rfl, below_drewN' hb0 _⟩
    · rw [goesV_3 h1 h2]
      have h2d : decide (A + O < p) = false := decide_eq_false h2
      go_enter Tryd.func44, Tryd.ntmps44
      go_wp2_with fail
      go_ret2
      exact ⟨rfl, al (Below.refl _ _) _⟩
set_option maxRecDepth 100000 in
set_option maxHeartbeats 8000000 in
theorem refwrong_any (ao : Option Addr) (cap : Nat) (zs : List Cu) (n : Nat) (hl : zs.length = n) (hn : n ≤ 140737488351232) (w : World) (hR : ReadsC w ao zs) :
    Calls Tryd.prog 43 #[.slice ao n cap] w fun e w' => e = .returned (.int .i64 (wrongN zs)) ∧ Below w.heap.size w w' := by
  have HR := Lib.hid hR
  have HL := Lib.hid hl
  clear hR hl
  by_cases h8 : 8 < n
  · rw [wrongN_long (by rw [HL.out]; exact h8)]
    have h8i : (8 : Int) < (n : Int) := by omega
    go_enter Tryd.func43, Tryd.ntmps43
    go_wp2_with fail
    go_ret
    exact ⟨rfl, Below.refl _ _⟩
  · have h8i : decide (8 < (n : Int)) = false := decide_eq_false (by omega)
    have h8n : decide (8 < n) = false := decide_eq_false (by omega)
    have hn8 : n ≤ 8 := by omega
    clear h8 hn
    go_enter Tryd.func43, Tryd.ntmps43
    go_wp2_with fail
    go_loopw [3] (fun i wr => ∃ k : Nat, i = .int .i64 (k : Nat) ∧ k ≤ n ∧ Hid (∀ j, j < k → badC zs j = false) ∧ Below w.heap.size w wr) (fun i _ => n - (intOf i).toNat)
    case atStart => exact ⟨0, rfl, Nat.zero_le _, Lib.hid (fun j hj => by omega), Below.refl _ _⟩
    case round =>
      obtain ⟨k, rfl, hk, hok, hb⟩ := hrel
      by_cases hlt : k < n
      · have hki : (k : Int) < (n : Int) := by omega
        have hk0 : (0 : Int) ≤ (k : Int) := by omega
        have hkz : k < zs.length := by rw [HL.out]; exact hlt
        rcases HR.out with h0 | ⟨b, off, rfl, hcs⟩
        · rw [h0] at hkz; simp at hkz
        have HCS := Lib.hid hcs
        obtain ⟨x0, x1, x2, x3⟩ := hcs k hkz
        have x0 := cellKeep x0 hb
        have x1 := cellKeep x1 hb
        have x2 := cellKeep x2 hb
        have x3 := cellKeep x3 hb
        have hbad : badC zs k = (lowC (zs[k]?.getD cuZ) || (decide (0 < k) && decide ((zs[k]?.getD cuZ).1 ≤ (zs[k - 1]?.getD cuZ).1))) := rfl
        obtain ⟨c, hc⟩ : ∃ c, zs[k]?.getD cuZ = c := ⟨_, rfl⟩
        rw [hc] at x0 x1 x2 x3 hbad
        obtain ⟨i, a, d, g⟩ := c
        simp only at x0 x1 x2 x3 hbad
        have k0 := Later.cell x0
        have k1 := Later.cell x1
        have k2 := Later.cell x2
        have k3 := Later.cell x3
        clear hcs x0 x1 x2 x3 hc
        by_cases ha : a < 0
        · have HW := Lib.hid (wrongN_bad (zs := zs) (by rw [HL.out]; exact hn8) hkz (by rw [hbad, show lowC (i, a, d, g) = true from decide_eq_true (.inl ha)]; rfl))
          have had : decide (a < 0) = true := decide_eq_true ha
          clear hbad hkz HCS
          go_wp2_with fail
          refine wp_region_later (by kernel_rfl) (by kernel_rfl) ?_
          repeat (go_big_quiet_step (fail))
          refine wpQuiet_nil ?_
          intro _ hw'
          obtain ⟨pq, hw''⟩ := hw'
          subst hw''
          go_wp2_with fail
          go_ret
          exact ⟨by rw [HW.out]; rfl, nx hb pq.hb⟩
        · have had : decide (a < 0) = false := decide_eq_false ha
          by_cases hd : d < 0
          · have HW := Lib.hid (wrongN_bad (zs := zs) (by rw [HL.out]; exact hn8) hkz (by rw [hbad, show lowC (i, a, d, g) = true from decide_eq_true (.inr (.inl hd))]; rfl))
            have hdd : decide (d < 0) = true := decide_eq_true hd
            clear hbad hkz HCS
            go_wp2_with fail
            refine wp_region_later (by kernel_rfl) (by kernel_rfl) ?_
            repeat (go_big_quiet_step (fail))
            refine wpQuiet_nil ?_
            intro _ hw'
            obtain ⟨pq, hw''⟩ := hw'
            subst hw''
            go_wp2_with fail
            go_ret
            exact ⟨by rw [HW.out]; rfl, nx hb pq.hb⟩
          · have hdd : decide (d < 0) = false := decide_eq_false hd
            by_cases hg : g < 0
            · have HW := Lib.hid (wrongN_bad (zs := zs) (by rw [HL.out]; exact hn8) hkz (by rw [hbad, show lowC (i, a, d, g) = true from decide_eq_true (.inr (.inr hg))]; rfl))
              have hgd : decide (g < 0) = true := decide_eq_true hg
              clear hbad hkz HCS
              go_wp2_with fail
              refine wp_region_later (by kernel_rfl) (by kernel_rfl) ?_
              repeat (go_big_quiet_step (fail))
              refine wpQuiet_nil ?_
              intro _ hw'
              obtain ⟨pq, hw''⟩ := hw'
              subst hw''
              go_wp2_with fail
              go_ret
              exact ⟨by rw [HW.out]; rfl, nx hb pq.hb⟩
            · have hgd : decide (g < 0) = false := decide_eq_false hg
              rw [show lowC (i, a, d, g) = false from decide_eq_false (show ¬ (a < 0 ∨ d < 0 ∨ g < 0) by omega), Bool.false_or] at hbad
              by_cases hk1 : 0 < k
              · obtain ⟨j, hj⟩ : ∃ j : Nat, j = k - 1 := ⟨_, rfl⟩
                have hj1 : (k : Int) - 1 = (j : Int) := by omega
                have hwj : IntKind.i64.wrap (j : Int) = (j : Int) := IntWalk.i64_in _ (by omega)
                have hj0 : (0 : Int) ≤ (j : Int) := by omega
                have hjn : (j : Int) < (n : Int) := by omega
                have hkp : (0 : Int) < (k : Int) := by omega
                obtain ⟨y0, -⟩ := HCS.out j (by rw [HL.out]; omega)
                rw [← hj] at hbad
                obtain ⟨pi, hpi⟩ : ∃ x, (zs[j]?.getD cuZ).1 = x := ⟨_, rfl⟩
                rw [hpi] at y0 hbad
                have k4 := Later.cell (cellKeep y0 hb)
                clear hj hpi y0
                by_cases hle : i ≤ pi
                · have HW := Lib.hid (wrongN_bad (zs := zs) (by rw [HL.out]; exact hn8) hkz (by rw [hbad]; simp [hk1, hle]))
                  clear hbad hkz HCS
                  go_wp2_with fail
                  refine wp_region_later (by kernel_rfl) (by kernel_rfl) ?_
                  repeat (go_big_quiet_step (fail))
                  refine wpQuiet_nil ?_
                  intro _ hw'
                  obtain ⟨pq, hw''⟩ := hw'
                  subst hw''
                  go_wp2_with fail
                  go_ret
                  exact ⟨by rw [HW.out]; rfl, nx hb pq.hb⟩
                · have HNB := Lib.hid (show badC zs k = false by rw [hbad]; simp [hle])
                  have hle2 : decide (i ≤ pi) = false := decide_eq_false hle
                  clear hbad hkz HCS
                  go_wp2_with fail
                  refine wp_region_later (by kernel_rfl) (by kernel_rfl) ?_
                  repeat (go_big_quiet_step (fail))
                  refine wpQuiet_nil ?_
                  intro _ hw'
                  obtain ⟨pq, hw''⟩ := hw'
                  subst hw''
                  go_wp2_with fail
                  exact ⟨⟨k + 1, by go_num, hlt, Lib.hid (fun j hj => by rcases Nat.lt_succ_iff_lt_or_eq.1 hj with h | rfl; exact hok.out j h; exact HNB.out), nx hb pq.hb⟩, by simp [intOf]; omega⟩
              · have HNB := Lib.hid (show badC zs k = false by rw [hbad]; simp [hk1])
                have hkp : decide ((0 : Int) < (k : Int)) = false := decide_eq_false (by omega)
                have hkp2 : decide (0 < k) = false := decide_eq_false hk1
                clear hbad hkz HCS
                go_wp2_with fail
                refine wp_region_later (by kernel_rfl) (by kernel_rfl) ?_
                repeat (go_big_quiet_step (fail))
                refine wpQuiet_nil ?_
                intro _ hw'
                obtain ⟨pq, hw''⟩ := hw'
                subst hw''
                go_wp2_with fail
                exact ⟨⟨k + 1, by go_num, hlt, Lib.hid (fun j hj => by rcases Nat.lt_succ_iff_lt_or_eq.1 hj with h | rfl; exact hok.out j h; exact HNB.out), nx hb pq.hb⟩, by simp [intOf]; omega⟩
      · obtain rfl : k = n := by omega
        have HW := Lib.hid (wrongN_ok (zs := zs) (by rw [HL.out]; omega) (fun j hj => hok.out j (by rw [← HL.out]; exact hj)))
        have hkd : decide (k < k) = false := decide_eq_false (by omega)
        go_wp2_with fail
        go_ret
        exact ⟨by rw [HW.out]; rfl, hb⟩

set_option maxRecDepth 10000 in
set_option maxHeartbeats 4000000 in
theorem refshift_bad (ao : Option Addr) (cap : Nat) (zs : List Cu) (n : Nat) (hl : zs.length = n) (hn : n ≤ 140737488351232) (A O I : Int) (er : Int) (her : wrongN zs = er) (hz : er ≠ 0) (w : World) (hR : ReadsC w ao zs) :
    Calls Tryd.prog 15 #[.slice ao n cap, .agg #[.int .i64 A, .int .i64 O, .int .i64 I]] w fun e w' => e = .returned (.tuple #[.slice none 0 0, .int .i64 er]) ∧ Below w.heap.size w w' := by
  have HW := Lib.hid (fun w hR => refwrong_any ao cap zs n hl hn w hR)
  have HR := Lib.hid hR
  rw [her] at HW
  have hne : (er != 0) = true := bne_iff_ne.2 hz
  clear hl hR her hz
  obtain ⟨d0, d1, d2⟩ := box3 w 24 (.int .i64 A) (.int .i64 O) (.int .i64 I)
  have hbk := Blk.new w 24 [.int .i64 A, .int .i64 O, .int .i64 I]
  have hb0 : Below w.heap.size w (w.alloc (.cells #[.int .i64 A, .int .i64 O, .int .i64 I] 24)) := al (Below.refl _ _) _
  obtain ⟨W, hW⟩ : ∃ W, w.alloc (.cells #[.int .i64 A, .int .i64 O, .int .i64 I] 24) = W := ⟨_, rfl⟩
  replace hbk : Blk W w.heap.size 24 [.int .i64 A, .int .i64 O, .int .i64 I] := hW ▸ hbk
  rw [hW] at d0 d1 d2 hb0
  go_enter Tryd.func15, Tryd.ntmps15
  go_wp2_with (go_at_call 43; (with_reducible refine (HW.out _ (HR.out.below hb0)).mono ?_); rintro e w1 ⟨rfl, hb1⟩)
  go_ret2
  exact ⟨rfl, nx hb0 hb1⟩
set_option maxRecDepth 10000 in
set_option maxHeartbeats 4000000 in
theorem refshift_arg (ao : Option Addr) (cap : Nat) (zs : List Cu) (n : Nat) (hl : zs.length = n) (hn : n ≤ 140737488351232) (A O I : Int) (hA : -9223372036854775808 ≤ A ∧ A ≤ 9223372036854775807) (hO : -9223372036854775808 ≤ O ∧ O ≤ 9223372036854775807) (hI : -9223372036854775808 ≤ I ∧ I ≤ 9223372036854775807)
    (her : wrongN zs = 0) (hx : A < 0 ∨ O < 0 ∨ I < 0 ∨ 9223372036854775807 < A + O ∨ 9223372036854775807 < A + I) (w : World) (hR : ReadsC w ao zs) :
    Calls Tryd.prog 15 #[.slice ao n cap, .agg #[.int .i64 A, .int .i64 O, .int .i64 I]] w fun e w' => e = .returned (.tuple #[.slice none 0 0, .int .i64 2]) ∧ Below w.heap.size w w' := by
  have HW := Lib.hid (fun w hR => refwrong_any ao cap zs n hl hn w hR)
  have HR := Lib.hid hR
  rw [her] at HW
  clear hl hR her
  obtain ⟨d0, d1, d2⟩ := box3 w 24 (.int .i64 A) (.int .i64 O) (.int .i64 I)
  have hbk := Blk.new w 24 [.int .i64 A, .int .i64 O, .int .i64 I]
  have hb0 : Below w.heap.size w (w.alloc (.cells #[.int .i64 A, .int .i64 O, .int .i64 I] 24)) := al (Below.refl _ _) _
  obtain ⟨W, hW⟩ : ∃ W, w.alloc (.cells #[.int .i64 A, .int .i64 O, .int .i64 I] 24) = W := ⟨_, rfl⟩
  replace hbk : Blk W w.heap.size 24 [.int .i64 A, .int .i64 O, .int .i64 I] := hW ▸ hbk
  rw [hW] at d0 d1 d2 hb0
  obtain ⟨hA1, hA2⟩ := hA
  obtain ⟨hO1, hO2⟩ := hO
  obtain ⟨hI1, hI2⟩ := hI
  go_enter Tryd.func15, Tryd.ntmps15
  go_wp2_with (go_at_call 43; (with_reducible refine (HW.out _ (HR.out.below hb0)).mono ?_); rintro e w1 ⟨rfl, hb1⟩; have e0 := cellKeep d0 hb1; have e1 := cellKeep d1 hb1; have e2 := cellKeep d2 hb1)
  all_goals first
    | (exfalso; omega)
    | (go_ret2; exact ⟨rfl, nx hb0 hb1⟩)
end Go.Proofs.YtfoppbignompkaaDoor
