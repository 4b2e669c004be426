/-
  The walk of CursorsWords: words, and borders of lines.
-/
import Derived.Test.YtfoppbignompkaaDoorCurB
namespace Go.Proofs.YtfoppbignompkaaDoor
open Go.RowKit

/-- a place brought into a text -/
theorem inside_any (i : Int) (n : Nat) (hn : n ≤ 140737488351232) (w : World) :
    Calls Tryd.prog 22 #[.int .i64 i, .int .i64 (n : Nat)] w fun e w' => ∃ p : Nat, p ≤ n ∧ e = .returned (.int .i64 (p : Nat)) ∧ w = w' := by
  obtain ⟨r, hr⟩ : ∃ r, i.tmod ((n : Int) + 1) = r := ⟨_, rfl⟩
  have h1 : r ≤ (n : Int) := by
    have := Int.tmod_lt_of_pos i (show (0 : Int) < (n : Int) + 1 by omega)
    omega
  have h2 : -(n : Int) ≤ r := by
    have h := Int.lt_tmod_of_pos i (show (0 : Int) < (n : Int) + 1 by omega)
    omega
  by_cases h0 : r < 0
  · obtain ⟨p, hp⟩ : ∃ p : Nat, r + (n : Int) + 1 = (p : Int) := ⟨(r + n + 1).toNat, by omega⟩
    have hpn : p ≤ n := by omega
    go_enter Tryd.func22, Tryd.ntmps22
    go_wp2_with fail
    go_ret
    exact ⟨p, hpn, rfl, rfl⟩
  · obtain ⟨p, rfl⟩ : ∃ p : Nat, r = (p : Int) := ⟨r.toNat, by omega⟩
    go_enter Tryd.func22, Tryd.ntmps22
    go_wp2_with fail
    go_ret
    exact ⟨p, by omega, rfl, rfl⟩

/-! ### where a place's character begins -/
theorem at_inj (l : Bs) {i j : Nat} (hi : i ≤ countN l) (hj : j ≤ countN l) (h : atN l i = atN l j) : i = j := by
  rcases Nat.lt_trichotomy i j with h1 | h1 | h1
  · have := atL_lt l h1 hj; omega
  · exact h1
  · have := atL_lt l h1 hi; omega
theorem ofT_at (l : Bs) (m : Nat) (hm : m ≤ countN l) : ofT (tk l) (atN l m) = m := by
  obtain ⟨m', h1, h2, h3⟩ := border_at (show Border l (atN l m) from ⟨_, cut_at l m hm⟩)
  rw [h3]
  exact at_inj l h1 hm h2
theorem into_into (l : Bs) (c : Int) : intoM l ((atN l (intoM l c) : Nat) : Int) = intoM l c := by
  obtain ⟨h1, h2, h3, -, -⟩ := into_find l c
  have hc : clampN l ((atN l (intoM l c) : Nat) : Int) = atN l (intoM l c) := by unfold clampN; omega
  unfold intoM at hc ⊢
  rw [hc]
  exact ofT_at l _ h1
theorem line_into (l : Bs) (p : Nat) (hp : p ≤ l.length) : lnOf l (atN l (intoM l (p : Nat))) = lnOf l p := by
  obtain ⟨h1, h2, h3, -, h5⟩ := into_find l (p : Nat)
  have hc : clampN l (p : Nat) = p := by unfold clampN; omega
  rw [hc] at h2 h5
  obtain ⟨k1, k2, k3⟩ := lnOf_is l p
  refine lnOf_eq ⟨k1, ?_, fun h => Nat.lt_of_le_of_lt h2 (k3 h)⟩
  rcases Nat.lt_or_ge (atN l (intoM l (p : Nat))) (lnA l (lnOf l p)) with h | h
  · exact absurd (lnA_border l _ k1) (h5 _ h k2)
  · exact h
theorem col_start (l : Bs) (k : Nat) (hk : k < lnN l) : colOf l (lnA l k) = 0 := by
  have h : lnOf l (lnA l k) = k := lnOf_eq ⟨hk, Nat.le_refl _, fun h => (lnA_lt l (Nat.lt_succ_self k) h).2⟩
  unfold colOf
  rw [h, Nat.sub_self]

theorem mv_word (s : ByteArray) (hs : s.size ≤ 140737488351232) (p : Nat) (hp : p ≤ s.size) (m : Nat) (hm1 : 1 ≤ m) (hm8 : m ≤ 8) (h5 : ¬ (m = 5 ∨ m = 6)) (q C : Nat) (hq : q = movV (bs s) (atN (bs s) (intoM (bs s) (p : Nat))) 0 m) (hC : C = colOf (bs s) q) (w : World) (hT : Tabs w) :
    Calls Tryd.prog 20 #[.string s, curV 0 (p : Nat) 0 0, .int .i64 (m : Nat), .bool false] w fun e w' => e = .returned (.tuple #[curV 0 (q : Nat) (q : Nat) (C : Nat), .int .i64 0]) ∧ Below w.heap.size w w' :=
  move_ok s hs 0 p 0 0 hp (Nat.zero_le _) (Int.le_refl _) m hm1 hm8 false q hq (q : Nat) (C : Nat) rfl (by rw [if_neg h5, hC]) w hT

set_option maxRecDepth 100000 in
set_option maxHeartbeats 8000000 in
theorem cursorsWords_any (s : ByteArray) (hs : s.size ≤ 140737488351232) (c : Int) (w : World) (hT : Tabs w) :
    Calls Tryd.prog 5 #[.string s, .int .i64 c] w fun e w' => e = .returned (.bool true) ∧ Below w.heap.size w w' := by
  have HT := Lib.hid hT
  have HA := Lib.hid (fun w hT => cawake_any w hT)
  have HI := Lib.hid (fun w => inside_any c s.size hs w)
  clear hT
  go_enter Tryd.func5, Tryd.ntmps5
  go_wp2_with (first
    | (go_at_call 19; (with_reducible refine (HA.out _ HT.out).mono ?_); rintro e w1 ⟨rfl, hb1⟩))
  (with_reducible refine (HI.out _).mono ?_)
  rintro e w2 ⟨p, hp, rfl, rfl⟩
  have hpl : p ≤ (bs s).length := by rw [← size_bs]; exact hp
  have hk := (lnOf_is (bs s) p).1
  have HB := Lib.hid (fun w hT => kback_any s hs (p : Nat) w hT)
  have HN := Lib.hid (fun w hT => next_any s hs (p : Nat) w hT)
  have HWH := Lib.hid (fun w hT => lwhere_at s hs p hp w hT)
  have HLN := Lib.hid (fun w hT => lline_at s hs _ hk w hT)
  have H3 := Lib.hid (fun w hT => mv_word s hs p hp 3 (by decide) (by decide) (by decide) (backV (bs s) (intoM (bs s) (p : Nat))) _ (by show _ = backV _ (intoM _ _); rw [into_into]) rfl w hT)
  have H4 := Lib.hid (fun w hT => mv_word s hs p hp 4 (by decide) (by decide) (by decide) (nextV (bs s) (intoM (bs s) (p : Nat))) _ (by show _ = nextV _ (intoM _ _); rw [into_into]) rfl w hT)
  have H7 := Lib.hid (fun w hT => mv_word s hs p hp 7 (by decide) (by decide) (by decide) (lnA (bs s) (lnOf (bs s) p)) 0 (by show _ = lnA _ (lnOf _ _); rw [line_into _ _ hpl]) (col_start _ _ hk).symm w hT)
  have H8 := Lib.hid (fun w hT => mv_word s hs p hp 8 (by decide) (by decide) (by decide) (lnB (bs s) (lnOf (bs s) p)) _ (by show _ = lnB _ (lnOf _ _); rw [line_into _ _ hpl]) rfl w hT)
  rw [show ((3 : Nat) : Int) = 3 from rfl] at H3
  rw [show ((4 : Nat) : Int) = 4 from rfl] at H4
  rw [show ((7 : Nat) : Int) = 7 from rfl, show ((0 : Nat) : Int) = 0 from rfl] at H7
  rw [show ((8 : Nat) : Int) = 8 from rfl] at H8
  obtain ⟨L, hL⟩ : ∃ L, lnOf (bs s) p = L := ⟨_, rfl⟩
  obtain ⟨q3, hq3⟩ : ∃ q, backV (bs s) (intoM (bs s) (p : Nat)) = q := ⟨_, rfl⟩
  obtain ⟨q4, hq4⟩ : ∃ q, nextV (bs s) (intoM (bs s) (p : Nat)) = q := ⟨_, rfl⟩
  rw [hL] at HWH HLN H7 H8
  rw [hq3] at HB H3
  rw [hq4] at HN H4
  obtain ⟨q7, hq7⟩ : ∃ q, lnA (bs s) L = q := ⟨_, rfl⟩
  obtain ⟨q8, hq8⟩ : ∃ q, lnB (bs s) L = q := ⟨_, rfl⟩
  obtain ⟨E, hE⟩ : ∃ q, lnE (bs s) L = q := ⟨_, rfl⟩
  rw [hq7] at HLN H7
  rw [hq8] at HLN H8
  rw [hE] at HLN
  obtain ⟨C3, hC3⟩ : ∃ q, colOf (bs s) q3 = q := ⟨_, rfl⟩
  obtain ⟨C4, hC4⟩ : ∃ q, colOf (bs s) q4 = q := ⟨_, rfl⟩
  obtain ⟨C8, hC8⟩ : ∃ q, colOf (bs s) q8 = q := ⟨_, rfl⟩
  obtain ⟨CP, hCP⟩ : ∃ q, colOf (bs s) p = q := ⟨_, rfl⟩
  rw [hC3] at H3
  rw [hC4] at H4
  rw [hC8] at H8
  rw [hCP] at HWH
  clear hpl hk hL hq3 hq4 hq7 hq8 hE hC3 hC4 hC8 hCP HA HI
  have hB1 := al hb1 (.cells #[.int .u32 0, .int .i64 (p : Nat), .int .i64 0, .int .i64 0] 36)
  have K0 := Blk.new w1 36 [.int .u32 0, .int .i64 (p : Nat), .int .i64 0, .int .i64 0]
  have a0 := K0.cell 0 rfl
  have a1 := K0.cell 1 rfl
  have a2 := K0.cell 2 rfl
  have a3 := K0.cell 3 rfl
  have K0 := Lib.hid K0
  go_wp2_with (first
    | (go_at_call 20; (with_reducible refine (H3.out _ (HT.out.below hB1 (Nat.le_refl _))).mono ?_); rintro e w3 ⟨rfl, hb3⟩; have hB3 := al (nx hB1 hb3) (.cells #[.int .u32 0, .int .i64 (q3 : Nat), .int .i64 (q3 : Nat), .int .i64 (C3 : Nat)] 36); have K03 := (K0.out.below hb3).alloc (.cells #[.int .u32 0, .int .i64 (q3 : Nat), .int .i64 (q3 : Nat), .int .i64 (C3 : Nat)] 36); have K33 := Lib.hid (Blk.new w3 36 [.int .u32 0, .int .i64 (q3 : Nat), .int .i64 (q3 : Nat), .int .i64 (C3 : Nat)]); have b0 := K03.cell 0 rfl; have b1 := K03.cell 1 rfl; have b2 := K03.cell 2 rfl; have b3 := K03.cell 3 rfl; have K03 := Lib.hid K03)
    | (go_at_call 20; (with_reducible refine (H4.out _ (HT.out.below hB3 (Nat.le_refl _))).mono ?_); rintro e w4 ⟨rfl, hb4⟩; have hB4 := al (nx hB3 hb4) (.cells #[.int .u32 0, .int .i64 (q4 : Nat), .int .i64 (q4 : Nat), .int .i64 (C4 : Nat)] 36); have K04 := (K03.out.below hb4).alloc (.cells #[.int .u32 0, .int .i64 (q4 : Nat), .int .i64 (q4 : Nat), .int .i64 (C4 : Nat)] 36); have K34 := Lib.hid ((K33.out.below hb4).alloc (.cells #[.int .u32 0, .int .i64 (q4 : Nat), .int .i64 (q4 : Nat), .int .i64 (C4 : Nat)] 36)); have K44 := Lib.hid (Blk.new w4 36 [.int .u32 0, .int .i64 (q4 : Nat), .int .i64 (q4 : Nat), .int .i64 (C4 : Nat)]); have c0 := K04.cell 0 rfl; have c1 := K04.cell 1 rfl; have c2 := K04.cell 2 rfl; have c3 := K04.cell 3 rfl; have K04 := Lib.hid K04)
    | (go_at_call 20; (with_reducible refine (H7.out _ (HT.out.below hB4 (Nat.le_refl _))).mono ?_); rintro e w7 ⟨rfl, hb7⟩; have hB7 := al (nx hB4 hb7) (.cells #[.int .u32 0, .int .i64 (q7 : Nat), .int .i64 (q7 : Nat), .int .i64 0] 36); have K07 := (K04.out.below hb7).alloc (.cells #[.int .u32 0, .int .i64 (q7 : Nat), .int .i64 (q7 : Nat), .int .i64 0] 36); have K37 := Lib.hid ((K34.out.below hb7).alloc (.cells #[.int .u32 0, .int .i64 (q7 : Nat), .int .i64 (q7 : Nat), .int .i64 0] 36)); have K47 := Lib.hid ((K44.out.below hb7).alloc (.cells #[.int .u32 0, .int .i64 (q7 : Nat), .int .i64 (q7 : Nat), .int .i64 0] 36)); have K77 := Lib.hid (Blk.new w7 36 [.int .u32 0, .int .i64 (q7 : Nat), .int .i64 (q7 : Nat), .int .i64 0]); have d0 := K07.cell 0 rfl; have d1 := K07.cell 1 rfl; have d2 := K07.cell 2 rfl; have d3 := K07.cell 3 rfl; clear K07)
    | (go_at_call 20; (with_reducible refine (H8.out _ (HT.out.below hB7 (Nat.le_refl _))).mono ?_); rintro e w8 ⟨rfl, hb8⟩; have hB8 := al (nx hB7 hb8) (.cells #[.int .u32 0, .int .i64 (q8 : Nat), .int .i64 (q8 : Nat), .int .i64 (C8 : Nat)] 36); have K38 := Lib.hid ((K37.out.below hb8).alloc (.cells #[.int .u32 0, .int .i64 (q8 : Nat), .int .i64 (q8 : Nat), .int .i64 (C8 : Nat)] 36)); have K48 := Lib.hid ((K47.out.below hb8).alloc (.cells #[.int .u32 0, .int .i64 (q8 : Nat), .int .i64 (q8 : Nat), .int .i64 (C8 : Nat)] 36)); have K78 := Lib.hid ((K77.out.below hb8).alloc (.cells #[.int .u32 0, .int .i64 (q8 : Nat), .int .i64 (q8 : Nat), .int .i64 (C8 : Nat)] 36)); have K88 := Lib.hid (Blk.new w8 36 [.int .u32 0, .int .i64 (q8 : Nat), .int .i64 (q8 : Nat), .int .i64 (C8 : Nat)])))
  have V3 := K38.out
  have V4 := K48.out
  have V7 := K78.out
  have V8 := K88.out
  clear K0 K03 K33 K04 K34 K44 K37 K47 K77 K38 K48 K78 K88 a0 a1 a2 a3 b0 b1 b2 b3 c0 c1 c2 c3 d0 d1 d2 d3
  obtain ⟨V, hV⟩ : ∃ V, w8.alloc (.cells #[.int .u32 0, .int .i64 (q8 : Nat), .int .i64 (q8 : Nat), .int .i64 (C8 : Nat)] 36) = V := ⟨_, rfl⟩
  replace V8 : Blk V w8.heap.size 36 [.int .u32 0, .int .i64 (q8 : Nat), .int .i64 (q8 : Nat), .int .i64 (C8 : Nat)] := hV ▸ V8
  rw [hV] at V3 V4 V7 hB8 ⊢
  clear hV
  have x3 := Later.cell (V3.cell 1 rfl)
  have x4 := Later.cell (V4.cell 1 rfl)
  have x7 := Later.cell (V7.cell 3 rfl)
  have z7 := Later.cell (V7.cell 1 rfl)
  have z8 := Later.cell (V8.cell 1 rfl)
  clear V3 V4 V7 V8
  have cB : ∀ p' : Later V, Calls Tryd.prog 23 #[.string s, .int .i64 (p : Nat)] p'.W fun e w'' => e = .returned (.int .i64 (q3 : Nat)) ∧ ∃ q : Later V, w'' = q.W := fun p' => Calls.later_of (HB.out _ (HT.out.below (nx hB8 p'.hb) (Nat.le_refl _)))
  have cN : ∀ p' : Later V, Calls Tryd.prog 24 #[.string s, .int .i64 (p : Nat)] p'.W fun e w'' => e = .returned (.int .i64 (q4 : Nat)) ∧ ∃ q : Later V, w'' = q.W := fun p' => Calls.later_of (HN.out _ (HT.out.below (nx hB8 p'.hb) (Nat.le_refl _)))
  refine wp_region_later (by kernel_rfl) (by kernel_rfl) ?_
  repeat (go_big_quiet_step (first | with_reducible exact cB _ | with_reducible exact cN _))
  refine wpQuiet_nil ?_
  intro _ hw'
  obtain ⟨pq, hw''⟩ := hw'
  subst hw''
  have y7 := z7 pq
  have y8 := z8 pq
  have hbU := nx hB8 pq.hb
  obtain ⟨U, hU⟩ : ∃ U, pq.W = U := ⟨_, rfl⟩
  rw [hU] at y7 y8 hbU ⊢
  clear hU x3 x4 x7 z7 z8 cB cN
  go_wp2_with (first
    | (go_at_call 25; (with_reducible refine (HWH.out _ (HT.out.below hbU (Nat.le_refl _))).mono ?_); rintro e w9 ⟨rfl, hb9⟩; have hb10 := al (nx hbU hb9) (.cells #[.int .i64 (L : Nat), .int .i64 (CP : Nat)] 45); have s0 := (Two.new w9 45 (.int .i64 (L : Nat)) (.int .i64 (CP : Nat))).cell0; have hbx := al hb9 (.cells #[.int .i64 (L : Nat), .int .i64 (CP : Nat)] 45); have y7a := cellKeep y7 hbx; have y8a := cellKeep y8 hbx)
    | (go_at_call 26; (with_reducible refine (HLN.out _ (HT.out.below hb10 (Nat.le_refl _))).mono ?_); rintro e w11 ⟨rfl, hb11⟩; have tp := Two.new w11 49 (.int .i64 (q7 : Nat)) (.int .i64 (q8 : Nat)); have t0 := tp.cell0; have t1 := tp.cell1; have hb12 := al (nx hb10 hb11) (.cells #[.int .i64 (q7 : Nat), .int .i64 (q8 : Nat)] 49); have hby := al hb11 (.cells #[.int .i64 (q7 : Nat), .int .i64 (q8 : Nat)] 49); have y7b := cellKeep y7a hby; have y8b := cellKeep y8a hby))
  go_ret
  exact ⟨rfl, hb12⟩
end Go.Proofs.YtfoppbignompkaaDoor
