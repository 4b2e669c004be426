/-
  The document's Shift where it answers a list, or that a place passes the greatest int.
-/
import Derived.Test.YtfoppbignompkaaDoorCurRefShift
namespace Go.Proofs.YtfoppbignompkaaDoor
open Go.RowKit

/-- two cells of a row of cursors -/
theorem c2_keep {W0 W W' : World} {g i1 i2 : Nat} {v1 v2 : Value} (H : W.cell? ⟨g, i1, none⟩ = some v1 ∧ W.cell? ⟨g, i2, none⟩ = some v2 ∧ Below W0.heap.size W0 W) (hb : Below W.heap.size W W') :
    W'.cell? ⟨g, i1, none⟩ = some v1 ∧ W'.cell? ⟨g, i2, none⟩ = some v2 ∧ Below W0.heap.size W0 W' := ⟨cellKeep H.1 hb, cellKeep H.2.1 hb, nx H.2.2 hb⟩
theorem shTake (A O I : Int) (zs : List Cu) (k : Nat) (hk : k < zs.length) : ((zs.take k).map (shC A O I)).flatMap cuC ++ cuC (shC A O I (zs[k]?.getD cuZ)) = ((zs.take (k + 1)).map (shC A O I)).flatMap cuC := by
  rw [List.take_succ_eq_append_getElem hk, List.map_append, List.flatMap_append, List.getElem?_eq_getElem hk]
  simp
set_option maxRecDepth 100000 in
set_option maxHeartbeats 8000000 in
theorem refshift_ok (ao : Option Addr) (cap : Nat) (zs : List Cu) (n : Nat) (hl : zs.length = n) (A O I : Int) (hA0 : 0 ≤ A) (hO0 : 0 ≤ O) (hI0 : 0 ≤ I) (hAO : A + O ≤ 9223372036854775807) (hAI : A + I ≤ 9223372036854775807)
    (her : wrongN zs = 0) (hz : IntsC zs) (w : World) (hR : ReadsC w ao zs) :
    Calls Tryd.prog 15 #[.slice ao n cap, .agg #[.int .i64 A, .int .i64 O, .int .i64 I]] w fun e w' =>
      ∃ v, e = .returned (.tuple #[v, .int .i64 (shiftV zs A O I).1]) ∧ w'.ownsRow w.heap.size 36 4 v (shiftV zs A O I).2.length ((shiftV zs A O I).2.flatMap cuC) ∧ Below w.heap.size w w' := by
  obtain ⟨i0, hi, hz0, hz1, hz2⟩ := info_parts info_cur
  obtain ⟨hn8, hbad⟩ := wrongN_zero her
  have HW := Lib.hid (fun w hR => refwrong_any ao cap zs n hl (by omega) w hR)
  have HR := Lib.hid hR
  have HV := Lib.hid (show shiftV zs A O I = if zs.all (okC A O I) then (0, zs.map (shC A O I)) else (2, []) by unfold shiftV; rw [if_neg (by omega), if_neg (by omega)])
  rw [hl] at hn8
  have HL := Lib.hid hl
  have HBAD := Lib.hid hbad
  have HZ := Lib.hid hz
  rw [her] at HW
  have hdA : decide (A < 0) = false := decide_eq_false (by omega)
  have hdO : decide (O < 0) = false := decide_eq_false (by omega)
  have hdI : decide (I < 0) = false := decide_eq_false (by omega)
  have hd1 : decide (9223372036854775807 - O < A) = false := decide_eq_false (by omega)
  have hd2 : decide (9223372036854775807 - I < A) = false := decide_eq_false (by omega)
  clear hR her hbad hz hl
  obtain ⟨d0, d1, d2⟩ := box3 w 24 (.int .i64 A) (.int .i64 O) (.int .i64 I)
  have hbk := Blk.new w 24 [.int .i64 A, .int .i64 O, .int .i64 I]
  have hb0 : Below w.heap.size w (w.alloc (.cells #[.int .i64 A, .int .i64 O, .int .i64 I] 24)) := al (Below.refl _ _) _
  obtain ⟨W, hW⟩ : ∃ W, w.alloc (.cells #[.int .i64 A, .int .i64 O, .int .i64 I] 24) = W := ⟨_, rfl⟩
  replace hbk : Blk W w.heap.size 24 [.int .i64 A, .int .i64 O, .int .i64 I] := hW ▸ hbk
  rw [hW] at d0 d1 d2 hb0
  go_enter Tryd.func15, Tryd.ntmps15
  go_wp2_with (go_at_call 43; (with_reducible refine (HW.out _ (HR.out.below hb0)).mono ?_); rintro e w1 ⟨rfl, hb1⟩; have hb01 := nx hb0 hb1; have hbk1 := hbk.below hb1; have e0 := hbk1.cell 0 rfl; have e1 := hbk1.cell 1 rfl; have e2 := hbk1.cell 2 rfl)
  have HR1 := Lib.hid ((HR.out.below hb0).below hb1)
  have hlt1 := hbk1.lt
  have hs01 := hb01.size
  clear HW HR hbk hb0 hb1 d0 d1 d2 e0 e1 e2 hW
  go_loopw [7, 8] (fun v i wr => ∃ k : Nat, i = .int .i64 (k : Nat) ∧ k ≤ n ∧ Hid (∀ j, j < k → okC A O I (zs[j]?.getD cuZ) = true) ∧ Hid (wr.ownsRow w1.heap.size 36 4 v k (((zs.take k).map (shC A O I)).flatMap cuC)) ∧ Below w1.heap.size w1 wr) (fun _ i _ => n - (intOf i).toNat)
  case atStart => exact ⟨0, rfl, Nat.zero_le _, Lib.hid (fun j hj => by omega), Lib.hid (World.ownsRow_nil _ _ _ _), Below.refl _ _⟩
  case round =>
    obtain ⟨k, rfl, hk, hok, hO, hb⟩ := hrel
    by_cases hlt : k < n
    · have hki : (k : Int) < (n : Int) := by omega
      have hk0 : (0 : Int) ≤ (k : Int) := by omega
      have hkz : k < zs.length := by rw [HL.out]; exact hlt
      have hB := hbk1.below hb
      rcases HR1.out with h0 | ⟨b, off, rfl, hcs⟩
      · rw [h0] at hkz; simp at hkz
      obtain ⟨x0, x1, x2, x3⟩ := hcs k hkz
      have HKS := Lib.hid (And.intro x0 x3)
      have x0 := cellKeep x0 hb
      have x1 := cellKeep x1 hb
      have x2 := cellKeep x2 hb
      have x3 := cellKeep x3 hb
      have hlow := bad_low (HBAD.out k hkz)
      obtain ⟨hu1, hu2, -⟩ := HZ.out k hkz
      have HNX := Lib.hid (shTake A O I zs k hkz)
      have HKZ := Lib.hid hkz
      obtain ⟨c, hc⟩ : ∃ c, zs[k]?.getD cuZ = c := ⟨_, rfl⟩
      rw [hc] at x0 x1 x2 x3 hlow hu1 hu2 HNX HKS
      have HC := Lib.hid hc
      obtain ⟨i, a, d, g⟩ := c
      simp only at x0 x1 x2 x3 hlow hu1 hu2 HKS
      have hokc : okC A O I (i, a, d, g) = ((goesV a A O I).2 && (goesV d A O I).2) := rfl
      have hsh : shC A O I (i, a, d, g) = (i, (goesV a A O I).1, (goesV d A O I).1, g) := rfl
      rw [hsh] at HNX
      have HG1 := Lib.hid (fun w => refgoes_any a A O I hlow.1 hu1 hA0 hO0 hI0 hAO hAI w)
      have HG2 := Lib.hid (fun w => refgoes_any d A O I hlow.2.1 hu2 hA0 hO0 hI0 hAO hAI w)
      obtain ⟨⟨a', o1⟩, hp1⟩ : ∃ p, goesV a A O I = p := ⟨_, rfl⟩
      obtain ⟨⟨d', o2⟩, hp2⟩ : ∃ p, goesV d A O I = p := ⟨_, rfl⟩
      rw [hp1] at HG1 HNX hokc
      rw [hp2] at HG2 HNX hokc
      have HOK := Lib.hid hokc
      have hkb : k ≤ 8 := by omega
      clear hcs hlow hu1 hu2 hc hp1 hp2 hokc hsh hkz
      have b0 := hB.cell 0 rfl
      have b1 := hB.cell 1 rfl
      have b2 := hB.cell 2 rfl
      have k0 := Later.cell b0
      have k1 := Later.cell b1
      have k2 := Later.cell b2
      have k3 := Later.cell x1
      have k4 := Later.cell x2
      have k5 := Later.cell x0
      have k6 := Later.cell x3
      have cG : ∀ p' : Later wr, Calls Tryd.prog 44 #[.int .i64 a, .agg #[.int .i64 A, .int .i64 O, .int .i64 I]] p'.W fun e w'' => e = .returned (.tuple #[.int .i64 a', .bool o1]) ∧ ∃ q : Later wr, w'' = q.W := fun p' => Calls.later_of (HG1.out _)
      go_wp2_with fail
      refine wp_region_later (by kernel_rfl) (by kernel_rfl) ?_
      repeat (go_big_quiet_step (with_reducible exact cG _))
      refine wpQuiet_nil ?_
      intro _ hw'
      obtain ⟨pq, hw''⟩ := hw'
      subst hw''
      have hbP := pq.hb
      have B0 := k0 pq
      have B1 := k1 pq
      have B2 := k2 pq
      have X2 := k4 pq
      have X0 := k5 pq
      have X3 := k6 pq
      have HOP := Lib.hid (owns_below hO.out hbP (Nat.le_refl _))
      obtain ⟨V, hV⟩ : ∃ V, pq.W = V := ⟨_, rfl⟩
      rw [hV] at hbP B0 B1 B2 X0 X2 X3 HOP ⊢
      have hbV := nx hb hbP
      clear hV k0 k1 k2 k3 k4 k5 k6 cG b0 b1 b2 x0 x1 x2 x3 hbP hB hO hb
      have k0 := Later.cell B0
      have k1 := Later.cell B1
      have k2 := Later.cell B2
      have k4 := Later.cell X2
      have k5 := Later.cell X0
      have k6 := Later.cell X3
      have cG : ∀ p' : Later V, Calls Tryd.prog 44 #[.int .i64 d, .agg #[.int .i64 A, .int .i64 O, .int .i64 I]] p'.W fun e w'' => e = .returned (.tuple #[.int .i64 d', .bool o2]) ∧ ∃ q : Later V, w'' = q.W := fun p' => Calls.later_of (HG2.out _)
      go_wp2_with fail
      refine wp_region_later (by kernel_rfl) (by kernel_rfl) ?_
      repeat (go_big_quiet_step (with_reducible exact cG _))
      refine wpQuiet_nil ?_
      intro _ hw'
      obtain ⟨pr, hw''⟩ := hw'
      subst hw''
      have hbR := pr.hb
      have Y0 := k5 pr
      have Y3 := k6 pr
      have HOR := owns_below HOP.out hbR (Nat.le_refl _)
      obtain ⟨U, hU⟩ : ∃ U, pr.W = U := ⟨_, rfl⟩
      rw [hU] at hbR Y0 Y3 HOR ⊢
      have hbU := nx hbV hbR
      have hszU := hbU.size
      clear hU k0 k1 k2 k4 k5 k6 cG B0 B1 B2 X0 X2 X3 hbR HOP hbV
      by_cases hoo : o1 = true ∧ o2 = true
      · obtain ⟨rfl, rfl⟩ := hoo
        have hown : U.drew.ownsRow w1.heap.size 36 4 u7 k (((zs.take k).map (shC A O I)).flatMap cuC) := HOR
        have HOWN := Lib.hid hown
        have HLT := Lib.hid hown.lt
        clear HOR hown
        go_wp2_with fail
        have hS : U.cell? ⟨b, off + k * 4, none⟩ = some (.int .u32 i) ∧ U.cell? ⟨b, off + k * 4 + 3, none⟩ = some (.int .i64 g) ∧ Below w1.heap.size w1 U := ⟨Y0, Y3, hbU⟩
        go_region_held_law (fun w' => w'.cell? ⟨b, off + k * 4, none⟩ = some (.int .u32 i) ∧ w'.cell? ⟨b, off + k * 4 + 3, none⟩ = some (.int .i64 g) ∧ Below w1.heap.size w1 w') (first | (with_reducible assumption) | (with_reducible exact c2_keep hS (Below.refl _ _).drew) | (with_reducible exact c2_keep hS (((Below.refl _ _).alloc (Nat.le_refl _) _).drew)) | (with_reducible exact c2_keep (by assumption) ((Below.refl _ _).alloc (Nat.le_refl _) _)) | (with_reducible exact c2_keep (by assumption) (by assumption)))
          (first | (refine step_append_lies _ (by rfl) _ _ _ (by rfl) w1.heap.size 36 i0 (.agg #[.int .u32 0, .int .i64 0, .int .i64 0, .int .i64 0]) 4 32 Tryd.underlying22 hi hz0 hz1 hz2 rfl (by decide) u7 _ _ (by rfl) (HOWN.out.alloc (.cells #[.int .u32 i, .int .i64 a', .int .i64 d', .int .i64 g] 36)) ⟨U.drew.heap.size, 0, none⟩ 1 1 [.int .u32 i, .int .i64 a', .int .i64 d', .int .i64 g] (by rfl) (by simp) (cells_new U.drew _ _) (cuC_one (i, a', d', g)) (by decide) (by unfold maxLen; omega) (by omega) (by show w1.heap.size ≤ (U.alloc _).heap.size; rw [World.size_alloc]; exact Nat.le_succ_of_le hszU) _ rfl ?_; intro g5 cap5 w5 r1 r2 _ _; have hb5 : Below w1.heap.size w1 w5 := (al hbU _).drew.grown r2 (by show w1.heap.size ≤ (U.alloc _).heap.size; rw [World.size_alloc]; exact Nat.le_succ_of_le hszU) (fun q e => (HLT.out q e).1); have hS5 := And.intro (cellKeep (HKS.out.1) hb5) (And.intro (cellKeep (HKS.out.2) hb5) hb5)))
        go_wp2_with fail
        have HR1' := Lib.hid (r1)
        exact ⟨⟨k + 1, by go_num, hlt, Lib.hid (fun j hj => by rcases Nat.lt_succ_iff_lt_or_eq.1 hj with h | rfl; exact hok.out j h; rw [HC.out, HOK.out]; rfl), Lib.hid (by rw [← HNX.out]; exact HR1'.out), hb5⟩, by simp [intOf]; omega⟩
      · have hoc : okC A O I (zs[k]?.getD cuZ) = false := by rw [HC.out, HOK.out]; cases o1 <;> cases o2 <;> simp_all
        have HSV := Lib.hid (show shiftV zs A O I = (2, []) by
          rw [HV.out, if_neg]
          intro h
          have := List.all_eq_true.1 h (zs[k]?.getD cuZ) (by rw [List.getElem?_eq_getElem HKZ.out]; exact List.getElem_mem HKZ.out)
          rw [hoc] at this
          cases this)
        have hbW := nx hb01 hbU
        clear hoc HOR
        cases o1
        · go_wp2_with fail
          go_ret2
          exact ⟨.slice none 0 0, by rw [HSV.out]; rfl, by rw [HSV.out]; exact World.ownsRow_nil _ _ _ _, hbW⟩
        · cases o2
          · go_wp2_with fail
            go_ret2
            exact ⟨.slice none 0 0, by rw [HSV.out]; rfl, by rw [HSV.out]; exact World.ownsRow_nil _ _ _ _, hbW⟩
          · exact absurd ⟨rfl, rfl⟩ hoo
    · obtain rfl : k = n := by omega
      have HSV := Lib.hid (show shiftV zs A O I = (0, zs.map (shC A O I)) by
        rw [HV.out, if_pos]
        rw [List.all_eq_true]
        intro c hc
        obtain ⟨j, hj, rfl⟩ := List.getElem_of_mem hc
        have := hok.out j (by rw [← HL.out]; exact hj)
        rw [List.getElem?_eq_getElem hj] at this
        exact this)
      have hkd : decide (k < k) = false := decide_eq_false (by omega)
      have hbW := nx hb01 hb
      go_wp2_with fail
      go_ret2
      refine ⟨_, by rw [HSV.out]; rfl, ?_, hbW⟩
      rw [HSV.out]
      have h := owns_base hO.out (base' := w.heap.size) (by omega)
      rw [List.take_of_length_le (by rw [HL.out]; exact Nat.le_refl _)] at h
      rw [List.length_map, HL.out]
      exact h
end Go.Proofs.YtfoppbignompkaaDoor
