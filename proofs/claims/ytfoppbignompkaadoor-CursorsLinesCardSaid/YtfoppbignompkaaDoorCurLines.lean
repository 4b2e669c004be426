/-
  The walk of CursorsLines: down and up, in the wanted column.
-/
import Derived.Test.YtfoppbignompkaaDoorCurWords
import Derived.Test.YtfoppbignompkaaDoorLBackLaw
import Derived.Test.YtfoppbignompkaaDoorLCount
namespace Go.Proofs.YtfoppbignompkaaDoor
open Go.RowKit

theorem colP_is (l : Bs) (k : Nat) (g : Int) (hk : k < lnN l) (hg : 0 ≤ g) :
    ∃ m, m ≤ countN l ∧ colP l k g = atN l m ∧ lnOf l (colP l k g) = k ∧ (colOf l (colP l k g) : Int) = min g (countN (pieceL l (lnA l k) (lnB l k)) : Int) := by
  obtain ⟨a, b, hab, hb, ha', hb', oa, ob⟩ := line_at l k hk
  have hP : pieceL l (lnA l k) (lnB l k) = (l.drop (atN l a)).take (atN l b - atN l a) := by rw [ha', hb']; rfl
  have hc : countN (pieceL l (lnA l k) (lnB l k)) = b - a := by rw [hP]; exact seg_count l a b hab hb
  obtain ⟨g1, g2, g3, g4, g5, g6, g7⟩ := ln_get l k hk
  have hcol : colP l k g = atN l (a + min g.toNat (b - a)) := by
    unfold colP
    by_cases h : g ≤ (countN (pieceL l (lnA l k) (lnB l k)) : Int)
    · rw [if_pos h, hP, ← ha', seg_in l a b g.toNat hab hb (by omega)]
      congr 1
      omega
    · rw [if_neg h, ← hb']
      congr 1
      omega
  have hmb : a + min g.toNat (b - a) ≤ b := by omega
  have hle1 : lnA l k ≤ colP l k g := by rw [hcol, ← ha']; exact atL_le l (Nat.le_add_right _ _) (by omega)
  have hle2 : colP l k g ≤ lnB l k := by rw [hcol, ← hb']; exact atL_le l hmb hb
  have hln : lnOf l (colP l k g) = k := lnOf_eq ⟨hk, hle1, fun h => by have := g7 h; omega⟩
  refine ⟨a + min g.toNat (b - a), by omega, hcol, hln, ?_⟩
  unfold colOf
  rw [hln, oa, hcol, ofT_at l _ (by omega), hc]
  omega
/-- a place in a line, at which a character begins -/
def AtLn (l : Bs) (i P : Nat) : Prop := ∃ m, m ≤ countN l ∧ P = atN l m ∧ lnOf l P = i
theorem AtLn.zero (l : Bs) : AtLn l 0 0 := by
  refine ⟨0, Nat.zero_le _, by simp [atN, wsum], lnOf_eq ⟨lnN_pos l, by rw [lnA_zero]; exact Nat.le_refl _, fun h => ?_⟩⟩
  have : lnA l 0 < lnA l (0 + 1) := (lnA_lt l (Nat.lt_succ_self 0) h).2
  omega
theorem AtLn.last (l : Bs) : AtLn l (lnN l - 1) l.length := by
  have hp := lnN_pos l
  refine ⟨countN l, Nat.le_refl _, (Cut.full l).at'.symm, lnOf_eq ⟨by omega, lnA_le l _ (by omega), fun h => by omega⟩⟩
theorem AtLn.into {l : Bs} {i P : Nat} (h : AtLn l i P) : atN l (intoM l (P : Nat)) = P := by
  obtain ⟨m, hm, rfl, -⟩ := h
  have hle := atN_le l m
  have hc : clampN l ((atN l m : Nat) : Int) = atN l m := by unfold clampN; omega
  unfold intoM
  rw [hc, ofT_at l m hm]
theorem AtLn.le {l : Bs} {i P : Nat} (h : AtLn l i P) : P ≤ l.length := by
  obtain ⟨m, hm, rfl, -⟩ := h
  exact atN_le l m
theorem AtLn.down {l : Bs} {i P : Nat} (h : AtLn l i P) (g : Int) : movV l (atN l (intoM l (P : Nat))) g 6 = if i + 1 = lnN l then l.length else colP l (i + 1) g := by
  rw [h.into]
  obtain ⟨m, hm, hP, hl⟩ := h
  show (if lnOf l P + 1 = lnN l then l.length else colP l (lnOf l P + 1) g) = _
  rw [hl]
theorem AtLn.up {l : Bs} {i P : Nat} (h : AtLn l i P) (g : Int) : movV l (atN l (intoM l (P : Nat))) g 5 = if i = 0 then 0 else colP l (i - 1) g := by
  rw [h.into]
  obtain ⟨m, hm, hP, hl⟩ := h
  show (if lnOf l P = 0 then 0 else colP l (lnOf l P - 1) g) = _
  rw [hl]

set_option maxRecDepth 100000 in
set_option maxHeartbeats 4000000 in
theorem there_any (s : ByteArray) (hs : s.size ≤ 400) (k : Nat) (hk : k < lnN (bs s)) (g : Int) (hg : 0 ≤ g) (w : World) (hT : Tabs w) :
    Calls Tryd.prog 30 #[.string s, .int .i64 (colP (bs s) k g : Nat), .int .i64 (k : Nat), .int .i64 g] w fun e w' => e = .returned (.bool true) ∧ Below w.heap.size w w' := by
  have HT := Lib.hid hT
  obtain ⟨-, -, -, hln, hco⟩ := colP_is (bs s) k g hk hg
  have hPl := colP_le (bs s) k g hk
  rw [← size_bs] at hPl
  have HW := Lib.hid (fun w hT => lwhere_at s (by omega) _ hPl w hT)
  have HL := Lib.hid (fun w hT => lline_at s (by omega) k hk w hT)
  obtain ⟨g1, g2, -⟩ := ln_get (bs s) k hk
  rw [← size_bs] at g2
  have hz : (s.extract (lnA (bs s) k) (lnB (bs s) k)).size ≤ 140737488351232 := by rw [ByteArray.size_extract]; omega
  have HC := Lib.hid (fun w => count_any (s.extract (lnA (bs s) k) (lnB (bs s) k)) hz w)
  rw [bs_extract, show ((bs s).drop (lnA (bs s) k)).take (lnB (bs s) k - lnA (bs s) k) = pieceL (bs s) (lnA (bs s) k) (lnB (bs s) k) from rfl] at HC
  rw [hln] at HW
  obtain ⟨P, hP⟩ : ∃ P, colP (bs s) k g = P := ⟨_, rfl⟩
  rw [hP] at HW hco hPl ⊢
  obtain ⟨C, hC⟩ : ∃ C, colOf (bs s) P = C := ⟨_, rfl⟩
  obtain ⟨N, hN⟩ : ∃ N, countN (pieceL (bs s) (lnA (bs s) k) (lnB (bs s) k)) = N := ⟨_, rfl⟩
  rw [hC] at HW hco
  rw [hN] at HC hco
  obtain ⟨A, hA⟩ : ∃ A, lnA (bs s) k = A := ⟨_, rfl⟩
  obtain ⟨B, hB⟩ : ∃ A, lnB (bs s) k = A := ⟨_, rfl⟩
  obtain ⟨E, hE⟩ : ∃ A, lnE (bs s) k = A := ⟨_, rfl⟩
  rw [hA, hB] at HC
  rw [hA, hB, hE] at HL
  rw [hA] at g1
  rw [hB] at g1 g2
  have hBs : B ≤ s.size := by omega
  have hAi : (0 : Int) ≤ (A : Int) := by omega
  have hABi : (A : Int) ≤ (B : Int) := by omega
  have hBi : (B : Int) ≤ (s.size : Int) := by omega
  have hd1 : decide (B < A) = false := decide_eq_false (by omega)
  have hd2 : decide (s.size < B) = false := decide_eq_false (by omega)
  have hmn := hco.symm
  clear hT hln hP hC hN hA hB hE g2 hz hk hco
  go_enter Tryd.func30, Tryd.ntmps30
  go_wp2_with (first
    | (go_at_call 25; (with_reducible refine (HW.out _ HT.out).mono ?_); rintro e w1 ⟨rfl, hb1⟩; have tS := Two.new w1 45 (.int .i64 (k : Nat)) (.int .i64 (C : Nat)); have hb2 := al hb1 (.cells #[.int .i64 (k : Nat), .int .i64 (C : Nat)] 45))
    | (go_at_call 26; (with_reducible refine (HL.out _ (HT.out.below hb2 (Nat.le_refl _))).mono ?_); rintro e w3 ⟨rfl, hb3⟩; have hb4 := al (nx hb2 hb3) (.cells #[.int .i64 (A : Nat), .int .i64 (B : Nat)] 49); have hb34 := al hb3 (.cells #[.int .i64 (A : Nat), .int .i64 (B : Nat)] 49); have s0 := cellKeep tS.cell0 hb34; have s1 := cellKeep tS.cell1 hb34; have tP := Two.new w3 49 (.int .i64 (A : Nat)) (.int .i64 (B : Nat)); have p0 := tP.cell0; have p1 := tP.cell1)
    | (go_at_call 56; (with_reducible refine (HC.out _).mono ?_); rintro e w5 ⟨rfl, hb5⟩; have s1' := cellKeep s1 hb5))
  have k1 := Later.cell s1
  have k2 := Later.cell p0
  have k3 := Later.cell p1
  have cC : ∀ p' : Later (w3.alloc (.cells #[.int .i64 (A : Nat), .int .i64 (B : Nat)] 49)), Calls Tryd.prog 56 #[.string (s.extract A B)] p'.W fun e w'' => e = .returned (.int .i64 (N : Nat)) ∧ ∃ q : Later (w3.alloc (.cells #[.int .i64 (A : Nat), .int .i64 (B : Nat)] 49)), w'' = q.W := fun p' => Calls.later_of (HC.out _)
  refine wp_region_later (by kernel_rfl) (by kernel_rfl) ?_
  repeat (go_big_quiet_step (with_reducible exact cC _))
  refine wpQuiet_nil ?_
  intro _ hw'
  obtain ⟨pq, hw''⟩ := hw'
  subst hw''
  go_wp2_with fail
  go_ret
  exact ⟨rfl, nx hb4 pq.hb⟩

set_option maxRecDepth 100000 in
set_option maxHeartbeats 8000000 in
theorem cursorsLines_any (s : ByteArray) (hs : s.size ≤ 140737488351232) (c : Int) (w : World) (hT : Tabs w) :
    Calls Tryd.prog 9 #[.string s, .int .i64 c] w fun e w' => e = .returned (.bool true) ∧ Below w.heap.size w w' := by
  have HT := Lib.hid hT
  have HA := Lib.hid (fun w hT => cawake_any w hT)
  have HI := Lib.hid (fun w => inside_any c 40 (by decide) w)
  rw [show ((40 : Nat) : Int) = 40 from rfl] at HI
  clear hT
  by_cases h4 : 400 < s.size
  · have h4i : (400 : Int) < (s.size : Int) := by omega
    obtain ⟨t, hte⟩ : ∃ t, s.extract 0 400 = t := ⟨_, rfl⟩
    have ht : t.size ≤ 400 := by rw [← hte, ByteArray.size_extract]; omega
    go_enter Tryd.func9, Tryd.ntmps9
    go_wp2_with (first
      | (go_at_call 19; (with_reducible refine (HA.out _ HT.out).mono ?_); rintro e w1 ⟨rfl, hb1⟩))
    (with_reducible refine (HI.out _).mono ?_)
    rintro e w2 ⟨gn, hgn, rfl, rfl⟩
    clear hte HA HI h4 h4i
    have hg0 : (0 : Int) ≤ (gn : Int) := by omega
    have HCN := Lib.hid (fun w hT => lcount_any t (by omega) w hT)
    have HTH := Lib.hid (fun k hk w hT => there_any t ht k hk (gn : Nat) hg0 w hT)
    have HMD := Lib.hid (fun (P : Nat) hP (q : Nat) hq w hT => move_ok t (by omega) 0 P P (gn : Nat) hP hP hg0 6 (by decide) (by decide) false q hq (q : Nat) (gn : Nat) rfl rfl w hT)
    have HMU := Lib.hid (fun (P A : Nat) hP hA (q : Nat) hq w hT => move_ok t (by omega) 0 P A (gn : Nat) hP hA hg0 5 (by decide) (by decide) true q hq (A : Nat) (gn : Nat) rfl rfl w hT)
    rw [show ((6 : Nat) : Int) = 6 from rfl] at HMD
    rw [show ((5 : Nat) : Int) = 5 from rfl] at HMU
    have hNp := lnN_pos (bs t)
    have hNl := lnN_le (bs t)
    rw [← size_bs] at hNl
    obtain ⟨n, hn⟩ : ∃ n, lnN (bs t) = n := ⟨_, rfl⟩
    rw [hn] at HCN HTH hNp hNl
    have HN := Lib.hid hn
    clear hn
    go_wp2_with (first
      | (go_at_call 29; (with_reducible refine (HCN.out _ (HT.out.below hb1 (Nat.le_refl _))).mono ?_); rintro e w3 ⟨rfl, hb3⟩))
    have K0 := Blk.new w3 36 [.int .u32 0, .int .i64 0, .int .i64 0, .int .i64 (gn : Nat)]
    have hb4 := al (nx hb1 hb3) (.cells #[.int .u32 0, .int .i64 0, .int .i64 0, .int .i64 (gn : Nat)] 36)
    have hcb := (nx hb1 hb3).size
    obtain ⟨cb, hcbe⟩ : ∃ cb, w3.heap.size = cb := ⟨_, rfl⟩
    obtain ⟨W4, hW4⟩ : ∃ W, w3.alloc (.cells #[.int .u32 0, .int .i64 0, .int .i64 0, .int .i64 (gn : Nat)] 36) = W := ⟨_, rfl⟩
    replace K0 : Blk W4 cb 36 [.int .u32 0, .int .i64 0, .int .i64 0, .int .i64 (gn : Nat)] := by rw [← hW4, ← hcbe]; exact K0
    rw [hW4] at hb4 ⊢
    rw [hcbe] at hcb ⊢
    clear hW4 hcbe hb1 hb3
    have hnb : n ≤ 401 := by omega
    go_loopw [7] (fun i wr => ∃ k P : Nat, i = .int .i64 (k : Nat) ∧ 1 ≤ k ∧ k ≤ n + 1 ∧ Hid (AtLn (bs t) (min (k - 1) (n - 1)) P) ∧ Blk wr cb 36 [.int .u32 0, .int .i64 (P : Nat), .int .i64 (P : Nat), .int .i64 (gn : Nat)] ∧ Below w.heap.size w wr) (fun i _ => n + 1 - (intOf i).toNat)
    case atStart => exact ⟨1, 0, rfl, by omega, by omega, Lib.hid (by rw [show min (1 - 1) (n - 1) = 0 by omega]; exact AtLn.zero _), K0, hb4⟩
    case round =>
      clear K0 hb4
      obtain ⟨k, P, rfl, hk1, hk2, hA, hK, hb⟩ := hrel
      have a0 := hK.cell 0 rfl
      have a1 := hK.cell 1 rfl
      have a2 := hK.cell 2 rfl
      have a3 := hK.cell 3 rfl
      by_cases hkn : k ≤ n
      · have hAt := hA.out
        rw [show min (k - 1) (n - 1) = k - 1 by omega] at hAt
        have hPs : P ≤ t.size := by rw [size_bs]; exact hAt.le
        have hdn := hAt.down (gn : Nat)
        rw [show k - 1 + 1 = k by omega, HN.out, ← size_bs] at hdn
        by_cases hlt : k < n
        · rw [if_neg (by omega)] at hdn
          obtain ⟨m, hm, hcm, hln, -⟩ := colP_is (bs t) k (gn : Nat) (by rw [HN.out]; exact hlt) hg0
          have HAN := Lib.hid (show AtLn (bs t) (min (k + 1 - 1) (n - 1)) (colP (bs t) k (gn : Nat)) by rw [show min (k + 1 - 1) (n - 1) = k by omega]; exact ⟨m, hm, hcm, hln⟩)
          have HM := Lib.hid (fun w hT => HMD.out P hPs _ hdn.symm w hT)
          have HTK := Lib.hid (fun w hT => HTH.out k hlt w hT)
          obtain ⟨q, hq⟩ : ∃ q, colP (bs t) k (gn : Nat) = q := ⟨_, rfl⟩
          rw [hq] at HM HTK HAN
          have hki : (k : Int) < (n : Int) := by omega
          have hke : ((k : Int) == (n : Int)) = false := beq_eq_false_iff_ne.2 (by omega)
          have hkle : (k : Int) ≤ (n : Int) := by omega
          clear hdn hm hcm hln hq hAt hPs m
          go_wp2_with (first
            | (go_at_call 20; (with_reducible refine (HM.out _ (HT.out.below hb (Nat.le_refl _))).mono ?_); rintro e w5 ⟨rfl, hb5⟩; have K8 := Blk.new w5 36 [.int .u32 0, .int .i64 (q : Nat), .int .i64 (q : Nat), .int .i64 (gn : Nat)]; have hb8 := al (nx hb hb5) (.cells #[.int .u32 0, .int .i64 (q : Nat), .int .i64 (q : Nat), .int .i64 (gn : Nat)] 36); have KC := (hK.below hb5).alloc (.cells #[.int .u32 0, .int .i64 (q : Nat), .int .i64 (q : Nat), .int .i64 (gn : Nat)] 36); have x1 := K8.cell 1 rfl; have x2 := K8.cell 2 rfl; have x3 := K8.cell 3 rfl; have K8 := Lib.hid K8; have KC := Lib.hid KC)
            | (go_at_call 30; (with_reducible refine (HTK.out _ (HT.out.below hb8 (Nat.le_refl _))).mono ?_); rintro e w9 ⟨rfl, hb9⟩; have L8 := K8.out.below hb9; have LC := KC.out.below hb9; have hb10 := nx hb8 hb9; have u0 := L8.cell 0 rfl; have u1 := L8.cell 1 rfl; have u2 := L8.cell 2 rfl; have u3 := L8.cell 3 rfl; have v0 := LC.cell 0 rfl; have v1 := LC.cell 1 rfl; have v2 := LC.cell 2 rfl; have v3 := LC.cell 3 rfl; have g0 := LC.frozen 0; have g1 := LC.frozen 1; have g2 := LC.frozen 2; have g3 := LC.frozen 3))
          exact ⟨⟨k + 1, q, by go_num, by omega, by omega, HAN, LC.set4 (.int .u32 0) (.int .i64 (q : Nat)) (.int .i64 (q : Nat)) (.int .i64 (gn : Nat)), below_set4 hb10 hcb _ _ _ _⟩, by simp [intOf]; omega⟩
        · obtain rfl : k = n := by omega
          rw [if_pos rfl] at hdn
          have HAN := Lib.hid (show AtLn (bs t) (min (k + 1 - 1) (k - 1)) t.size by rw [show min (k + 1 - 1) (k - 1) = lnN (bs t) - 1 by rw [HN.out]; omega, size_bs]; exact AtLn.last _)
          have HM := Lib.hid (fun w hT => HMD.out P hPs _ hdn.symm w hT)
          have hki : decide (k < k) = false := decide_eq_false (by omega)
          clear hdn hAt hPs
          go_wp2_with (first
            | (go_at_call 20; (with_reducible refine (HM.out _ (HT.out.below hb (Nat.le_refl _))).mono ?_); rintro e w5 ⟨rfl, hb5⟩; have K8 := Blk.new w5 36 [.int .u32 0, .int .i64 (t.size : Nat), .int .i64 (t.size : Nat), .int .i64 (gn : Nat)]; have hb8 := al (nx hb hb5) (.cells #[.int .u32 0, .int .i64 (t.size : Nat), .int .i64 (t.size : Nat), .int .i64 (gn : Nat)] 36); have KC := (hK.below hb5).alloc (.cells #[.int .u32 0, .int .i64 (t.size : Nat), .int .i64 (t.size : Nat), .int .i64 (gn : Nat)] 36); have x0 := K8.cell 0 rfl; have x1 := K8.cell 1 rfl; have x2 := K8.cell 2 rfl; have x3 := K8.cell 3 rfl; have y0 := KC.cell 0 rfl; have y1 := KC.cell 1 rfl; have y2 := KC.cell 2 rfl; have y3 := KC.cell 3 rfl; have f0 := KC.frozen 0; have f1 := KC.frozen 1; have f2 := KC.frozen 2; have f3 := KC.frozen 3))
          exact ⟨⟨k + 1, t.size, by go_num, by omega, by omega, HAN, KC.set4 (.int .u32 0) (.int .i64 (t.size : Nat)) (.int .i64 (t.size : Nat)) (.int .i64 (gn : Nat)), below_set4 hb8 hcb _ _ _ _⟩, by simp [intOf]⟩
      · obtain rfl : k = n + 1 := by omega
        have hAt := hA.out
        rw [show min (n + 1 - 1) (n - 1) = n - 1 by omega] at hAt
        have HA1 := Lib.hid hAt
        have hPs : P ≤ t.size := by rw [size_bs]; exact hAt.le
        have hkd : decide ((n : Int) + 1 ≤ (n : Int)) = false := decide_eq_false (by omega)
        rw [show ((n + 1 : Nat) : Int) = (n : Int) + 1 from rfl]
        clear hAt hA HMD a0 a1 a2 a3 hkn hk1 hk2
        obtain ⟨W, hW⟩ : ∃ W, wr = W := ⟨_, rfl⟩
        rw [hW] at hK hb ⊢
        clear hW
        go_wp2_with fail
        go_loopw [10] (fun i wr => ∃ (z : Int) (P A : Nat), i = .int .i64 z ∧ -2 ≤ z ∧ z ≤ (n : Int) - 2 ∧ A ≤ t.size ∧ Hid (AtLn (bs t) (max (z + 1) 0).toNat P) ∧ Blk wr cb 36 [.int .u32 0, .int .i64 (P : Nat), .int .i64 (A : Nat), .int .i64 (gn : Nat)] ∧ Below w.heap.size w wr) (fun i _ => (intOf i + 2).toNat)
        case atStart => exact ⟨(n : Int) - 2, P, P, rfl, by omega, by omega, hPs, Lib.hid (by rw [show (max ((n : Int) - 2 + 1) 0).toNat = n - 1 by omega]; exact HA1.out), hK, hb⟩
        case round =>
          clear hK hb hPs HA1 P
          obtain ⟨z, P, A, rfl, hz1, hz2, hAs, hA, hK, hb⟩ := hrel
          by_cases hzz : -1 ≤ z
          · have a0 := hK.cell 0 rfl
            have a1 := hK.cell 1 rfl
            have a2 := hK.cell 2 rfl
            have a3 := hK.cell 3 rfl
            have hAt := hA.out
            have hPs : P ≤ t.size := by rw [size_bs]; exact hAt.le
            have hup := hAt.up (gn : Nat)
            by_cases hz0 : 0 ≤ z
            · obtain ⟨k, rfl⟩ : ∃ k : Nat, z = (k : Int) := ⟨z.toNat, by omega⟩
              have hkN : k < n := by omega
              rw [if_neg (by omega), show (max ((k : Int) + 1) 0).toNat - 1 = k by omega] at hup
              obtain ⟨m, hm, hcm, hln, -⟩ := colP_is (bs t) k (gn : Nat) (by rw [HN.out]; exact hkN) hg0
              have HAN := Lib.hid (show AtLn (bs t) (max ((k : Int) - 1 + 1) 0).toNat (colP (bs t) k (gn : Nat)) by rw [show (max ((k : Int) - 1 + 1) 0).toNat = k by omega]; exact ⟨m, hm, hcm, hln⟩)
              have HM := Lib.hid (fun w hT => HMU.out P A hPs hAs _ hup.symm w hT)
              have HTK := Lib.hid (fun w hT => HTH.out k hkN w hT)
              obtain ⟨q, hq⟩ : ∃ q, colP (bs t) k (gn : Nat) = q := ⟨_, rfl⟩
              rw [hq] at HM HTK HAN
              have hkd0 : decide ((k : Int) < 0) = false := decide_eq_false (by omega)
              clear hup hm hcm hln hq hAt hPs m
              go_wp2_with (first
                | (go_at_call 20; (with_reducible refine (HM.out _ (HT.out.below hb (Nat.le_refl _))).mono ?_); rintro e w5 ⟨rfl, hb5⟩; have K8 := Blk.new w5 36 [.int .u32 0, .int .i64 (q : Nat), .int .i64 (A : Nat), .int .i64 (gn : Nat)]; have hb8 := al (nx hb hb5) (.cells #[.int .u32 0, .int .i64 (q : Nat), .int .i64 (A : Nat), .int .i64 (gn : Nat)] 36); have KC := (hK.below hb5).alloc (.cells #[.int .u32 0, .int .i64 (q : Nat), .int .i64 (A : Nat), .int .i64 (gn : Nat)] 36); have x1 := K8.cell 1 rfl; have x2 := K8.cell 2 rfl; have x3 := K8.cell 3 rfl; have y2 := KC.cell 2 rfl; have K8 := Lib.hid K8; have KC := Lib.hid KC)
                | (go_at_call 30; (with_reducible refine (HTK.out _ (HT.out.below hb8 (Nat.le_refl _))).mono ?_); rintro e w9 ⟨rfl, hb9⟩; have L8 := K8.out.below hb9; have LC := KC.out.below hb9; have hb10 := nx hb8 hb9; have u0 := L8.cell 0 rfl; have u1 := L8.cell 1 rfl; have u2 := L8.cell 2 rfl; have u3 := L8.cell 3 rfl; have v0 := LC.cell 0 rfl; have v1 := LC.cell 1 rfl; have v2 := LC.cell 2 rfl; have v3 := LC.cell 3 rfl; have g0 := LC.frozen 0; have g1 := LC.frozen 1; have g2 := LC.frozen 2; have g3 := LC.frozen 3))
              exact ⟨⟨(k : Int) - 1, q, A, rfl, by omega, by omega, hAs, HAN, LC.set4 (.int .u32 0) (.int .i64 (q : Nat)) (.int .i64 (A : Nat)) (.int .i64 (gn : Nat)), below_set4 hb10 hcb _ _ _ _⟩, by simp [intOf]; omega⟩
            · obtain rfl : z = -1 := by omega
              rw [if_pos (by decide)] at hup
              have HM := Lib.hid (fun w hT => HMU.out P A hPs hAs _ hup.symm w hT)
              rw [show ((0 : Nat) : Int) = 0 from rfl] at HM
              have HAN := Lib.hid (show AtLn (bs t) (max ((-2 : Int) + 1) 0).toNat 0 from AtLn.zero _)
              clear hup hAt hPs
              go_wp2_with (first
                | (go_at_call 20; (with_reducible refine (HM.out _ (HT.out.below hb (Nat.le_refl _))).mono ?_); rintro e w5 ⟨rfl, hb5⟩; have K8 := Blk.new w5 36 [.int .u32 0, .int .i64 0, .int .i64 (A : Nat), .int .i64 (gn : Nat)]; have hb8 := al (nx hb hb5) (.cells #[.int .u32 0, .int .i64 0, .int .i64 (A : Nat), .int .i64 (gn : Nat)] 36); have KC := (hK.below hb5).alloc (.cells #[.int .u32 0, .int .i64 0, .int .i64 (A : Nat), .int .i64 (gn : Nat)] 36); have x0 := K8.cell 0 rfl; have x1 := K8.cell 1 rfl; have x2 := K8.cell 2 rfl; have x3 := K8.cell 3 rfl; have y0 := KC.cell 0 rfl; have y1 := KC.cell 1 rfl; have y2 := KC.cell 2 rfl; have y3 := KC.cell 3 rfl; have f0 := KC.frozen 0; have f1 := KC.frozen 1; have f2 := KC.frozen 2; have f3 := KC.frozen 3))
              exact ⟨⟨-2, 0, A, rfl, by omega, by omega, hAs, HAN, KC.set4 (.int .u32 0) (.int .i64 0) (.int .i64 (A : Nat)) (.int .i64 (gn : Nat)), below_set4 hb8 hcb _ _ _ _⟩, by simp [intOf]⟩
          · obtain rfl : z = -2 := by omega
            go_wp2_with fail
            go_ret
            exact ⟨rfl, hb⟩
  · have h4i : decide (400 < (s.size : Int)) = false := decide_eq_false (by omega)
    have h4n : decide (400 < s.size) = false := decide_eq_false h4
    obtain ⟨t, hte⟩ : ∃ t, s = t := ⟨_, rfl⟩
    subst hte
    obtain ⟨t, rfl⟩ : ∃ t, t = s := ⟨_, rfl⟩
    have ht : t.size ≤ 400 := by omega
    go_enter Tryd.func9, Tryd.ntmps9
    go_wp2_with (first
      | (go_at_call 19; (with_reducible refine (HA.out _ HT.out).mono ?_); rintro e w1 ⟨rfl, hb1⟩))
    (with_reducible refine (HI.out _).mono ?_)
    rintro e w2 ⟨gn, hgn, rfl, rfl⟩
    clear HA HI h4 h4i h4n
    have hg0 : (0 : Int) ≤ (gn : Int) := by omega
    have HCN := Lib.hid (fun w hT => lcount_any t (by omega) w hT)
    have HTH := Lib.hid (fun k hk w hT => there_any t ht k hk (gn : Nat) hg0 w hT)
    have HMD := Lib.hid (fun (P : Nat) hP (q : Nat) hq w hT => move_ok t (by omega) 0 P P (gn : Nat) hP hP hg0 6 (by decide) (by decide) false q hq (q : Nat) (gn : Nat) rfl rfl w hT)
    have HMU := Lib.hid (fun (P A : Nat) hP hA (q : Nat) hq w hT => move_ok t (by omega) 0 P A (gn : Nat) hP hA hg0 5 (by decide) (by decide) true q hq (A : Nat) (gn : Nat) rfl rfl w hT)
    rw [show ((6 : Nat) : Int) = 6 from rfl] at HMD
    rw [show ((5 : Nat) : Int) = 5 from rfl] at HMU
    have hNp := lnN_pos (bs t)
    have hNl := lnN_le (bs t)
    rw [← size_bs] at hNl
    obtain ⟨n, hn⟩ : ∃ n, lnN (bs t) = n := ⟨_, rfl⟩
    rw [hn] at HCN HTH hNp hNl
    have HN := Lib.hid hn
    clear hn
    go_wp2_with (first
      | (go_at_call 29; (with_reducible refine (HCN.out _ (HT.out.below hb1 (Nat.le_refl _))).mono ?_); rintro e w3 ⟨rfl, hb3⟩))
    have K0 := Blk.new w3 36 [.int .u32 0, .int .i64 0, .int .i64 0, .int .i64 (gn : Nat)]
    have hb4 := al (nx hb1 hb3) (.cells #[.int .u32 0, .int .i64 0, .int .i64 0, .int .i64 (gn : Nat)] 36)
    have hcb := (nx hb1 hb3).size
    obtain ⟨cb, hcbe⟩ : ∃ cb, w3.heap.size = cb := ⟨_, rfl⟩
    obtain ⟨W4, hW4⟩ : ∃ W, w3.alloc (.cells #[.int .u32 0, .int .i64 0, .int .i64 0, .int .i64 (gn : Nat)] 36) = W := ⟨_, rfl⟩
    replace K0 : Blk W4 cb 36 [.int .u32 0, .int .i64 0, .int .i64 0, .int .i64 (gn : Nat)] := by rw [← hW4, ← hcbe]; exact K0
    rw [hW4] at hb4 ⊢
    rw [hcbe] at hcb ⊢
    clear hW4 hcbe hb1 hb3
    have hnb : n ≤ 401 := by omega
    go_loopw [7] (fun i wr => ∃ k P : Nat, i = .int .i64 (k : Nat) ∧ 1 ≤ k ∧ k ≤ n + 1 ∧ Hid (AtLn (bs t) (min (k - 1) (n - 1)) P) ∧ Blk wr cb 36 [.int .u32 0, .int .i64 (P : Nat), .int .i64 (P : Nat), .int .i64 (gn : Nat)] ∧ Below w.heap.size w wr) (fun i _ => n + 1 - (intOf i).toNat)
    case atStart => exact ⟨1, 0, rfl, by omega, by omega, Lib.hid (by rw [show min (1 - 1) (n - 1) = 0 by omega]; exact AtLn.zero _), K0, hb4⟩
    case round =>
      clear K0 hb4
      obtain ⟨k, P, rfl, hk1, hk2, hA, hK, hb⟩ := hrel
      have a0 := hK.cell 0 rfl
      have a1 := hK.cell 1 rfl
      have a2 := hK.cell 2 rfl
      have a3 := hK.cell 3 rfl
      by_cases hkn : k ≤ n
      · have hAt := hA.out
        rw [show min (k - 1) (n - 1) = k - 1 by omega] at hAt
        have hPs : P ≤ t.size := by rw [size_bs]; exact hAt.le
        have hdn := hAt.down (gn : Nat)
        rw [show k - 1 + 1 = k by omega, HN.out, ← size_bs] at hdn
        by_cases hlt : k < n
        · rw [if_neg (by omega)] at hdn
          obtain ⟨m, hm, hcm, hln, -⟩ := colP_is (bs t) k (gn : Nat) (by rw [HN.out]; exact hlt) hg0
          have HAN := Lib.hid (show AtLn (bs t) (min (k + 1 - 1) (n - 1)) (colP (bs t) k (gn : Nat)) by rw [show min (k + 1 - 1) (n - 1) = k by omega]; exact ⟨m, hm, hcm, hln⟩)
          have HM := Lib.hid (fun w hT => HMD.out P hPs _ hdn.symm w hT)
          have HTK := Lib.hid (fun w hT => HTH.out k hlt w hT)
          obtain ⟨q, hq⟩ : ∃ q, colP (bs t) k (gn : Nat) = q := ⟨_, rfl⟩
          rw [hq] at HM HTK HAN
          have hki : (k : Int) < (n : Int) := by omega
          have hke : ((k : Int) == (n : Int)) = false := beq_eq_false_iff_ne.2 (by omega)
          have hkle : (k : Int) ≤ (n : Int) := by omega
          clear hdn hm hcm hln hq hAt hPs m
          go_wp2_with (first
            | (go_at_call 20; (with_reducible refine (HM.out _ (HT.out.below hb (Nat.le_refl _))).mono ?_); rintro e w5 ⟨rfl, hb5⟩; have K8 := Blk.new w5 36 [.int .u32 0, .int .i64 (q : Nat), .int .i64 (q : Nat), .int .i64 (gn : Nat)]; have hb8 := al (nx hb hb5) (.cells #[.int .u32 0, .int .i64 (q : Nat), .int .i64 (q : Nat), .int .i64 (gn : Nat)] 36); have KC := (hK.below hb5).alloc (.cells #[.int .u32 0, .int .i64 (q : Nat), .int .i64 (q : Nat), .int .i64 (gn : Nat)] 36); have x1 := K8.cell 1 rfl; have x2 := K8.cell 2 rfl; have x3 := K8.cell 3 rfl; have K8 := Lib.hid K8; have KC := Lib.hid KC)
            | (go_at_call 30; (with_reducible refine (HTK.out _ (HT.out.below hb8 (Nat.le_refl _))).mono ?_); rintro e w9 ⟨rfl, hb9⟩; have L8 := K8.out.below hb9; have LC := KC.out.below hb9; have hb10 := nx hb8 hb9; have u0 := L8.cell 0 rfl; have u1 := L8.cell 1 rfl; have u2 := L8.cell 2 rfl; have u3 := L8.cell 3 rfl; have v0 := LC.cell 0 rfl; have v1 := LC.cell 1 rfl; have v2 := LC.cell 2 rfl; have v3 := LC.cell 3 rfl; have g0 := LC.frozen 0; have g1 := LC.frozen 1; have g2 := LC.frozen 2; have g3 := LC.frozen 3))
          exact ⟨⟨k + 1, q, by go_num, by omega, by omega, HAN, LC.set4 (.int .u32 0) (.int .i64 (q : Nat)) (.int .i64 (q : Nat)) (.int .i64 (gn : Nat)), below_set4 hb10 hcb _ _ _ _⟩, by simp [intOf]; omega⟩
        · obtain rfl : k = n := by omega
          rw [if_pos rfl] at hdn
          have HAN := Lib.hid (show AtLn (bs t) (min (k + 1 - 1) (k - 1)) t.size by rw [show min (k + 1 - 1) (k - 1) = lnN (bs t) - 1 by rw [HN.out]; omega, size_bs]; exact AtLn.last _)
          have HM := Lib.hid (fun w hT => HMD.out P hPs _ hdn.symm w hT)
          have hki : decide (k < k) = false := decide_eq_false (by omega)
          clear hdn hAt hPs
          go_wp2_with (first
            | (go_at_call 20; (with_reducible refine (HM.out _ (HT.out.below hb (Nat.le_refl _))).mono ?_); rintro e w5 ⟨rfl, hb5⟩; have K8 := Blk.new w5 36 [.int .u32 0, .int .i64 (t.size : Nat), .int .i64 (t.size : Nat), .int .i64 (gn : Nat)]; have hb8 := al (nx hb hb5) (.cells #[.int .u32 0, .int .i64 (t.size : Nat), .int .i64 (t.size : Nat), .int .i64 (gn : Nat)] 36); have KC := (hK.below hb5).alloc (.cells #[.int .u32 0, .int .i64 (t.size : Nat), .int .i64 (t.size : Nat), .int .i64 (gn : Nat)] 36); have x0 := K8.cell 0 rfl; have x1 := K8.cell 1 rfl; have x2 := K8.cell 2 rfl; have x3 := K8.cell 3 rfl; have y0 := KC.cell 0 rfl; have y1 := KC.cell 1 rfl; have y2 := KC.cell 2 rfl; have y3 := KC.cell 3 rfl; have f0 := KC.frozen 0; have f1 := KC.frozen 1; have f2 := KC.frozen 2; have f3 := KC.frozen 3))
          exact ⟨⟨k + 1, t.size, by go_num, by omega, by omega, HAN, KC.set4 (.int .u32 0) (.int .i64 (t.size : Nat)) (.int .i64 (t.size : Nat)) (.int .i64 (gn : Nat)), below_set4 hb8 hcb _ _ _ _⟩, by simp [intOf]⟩
      · obtain rfl : k = n + 1 := by omega
        have hAt := hA.out
        rw [show min (n + 1 - 1) (n - 1) = n - 1 by omega] at hAt
        have HA1 := Lib.hid hAt
        have hPs : P ≤ t.size := by rw [size_bs]; exact hAt.le
        have hkd : decide ((n : Int) + 1 ≤ (n : Int)) = false := decide_eq_false (by omega)
        rw [show ((n + 1 : Nat) : Int) = (n : Int) + 1 from rfl]
        clear hAt hA HMD a0 a1 a2 a3 hkn hk1 hk2
        obtain ⟨W, hW⟩ : ∃ W, wr = W := ⟨_, rfl⟩
        rw [hW] at hK hb ⊢
        clear hW
        go_wp2_with fail
        go_loopw [10] (fun i wr => ∃ (z : Int) (P A : Nat), i = .int .i64 z ∧ -2 ≤ z ∧ z ≤ (n : Int) - 2 ∧ A ≤ t.size ∧ Hid (AtLn (bs t) (max (z + 1) 0).toNat P) ∧ Blk wr cb 36 [.int .u32 0, .int .i64 (P : Nat), .int .i64 (A : Nat), .int .i64 (gn : Nat)] ∧ Below w.heap.size w wr) (fun i _ => (intOf i + 2).toNat)
        case atStart => exact ⟨(n : Int) - 2, P, P, rfl, by omega, by omega, hPs, Lib.hid (by rw [show (max ((n : Int) - 2 + 1) 0).toNat = n - 1 by omega]; exact HA1.out), hK, hb⟩
        case round =>
          clear hK hb hPs HA1 P
          obtain ⟨z, P, A, rfl, hz1, hz2, hAs, hA, hK, hb⟩ := hrel
          by_cases hzz : -1 ≤ z
          · have a0 := hK.cell 0 rfl
            have a1 := hK.cell 1 rfl
            have a2 := hK.cell 2 rfl
            have a3 := hK.cell 3 rfl
            have hAt := hA.out
            have hPs : P ≤ t.size := by rw [size_bs]; exact hAt.le
            have hup := hAt.up (gn : Nat)
            by_cases hz0 : 0 ≤ z
            · obtain ⟨k, rfl⟩ : ∃ k : Nat, z = (k : Int) := ⟨z.toNat, by omega⟩
              have hkN : k < n := by omega
              rw [if_neg (by omega), show (max ((k : Int) + 1) 0).toNat - 1 = k by omega] at hup
              obtain ⟨m, hm, hcm, hln, -⟩ := colP_is (bs t) k (gn : Nat) (by rw [HN.out]; exact hkN) hg0
              have HAN := Lib.hid (show AtLn (bs t) (max ((k : Int) - 1 + 1) 0).toNat (colP (bs t) k (gn : Nat)) by rw [show (max ((k : Int) - 1 + 1) 0).toNat = k by omega]; exact ⟨m, hm, hcm, hln⟩)
              have HM := Lib.hid (fun w hT => HMU.out P A hPs hAs _ hup.symm w hT)
              have HTK := Lib.hid (fun w hT => HTH.out k hkN w hT)
              obtain ⟨q, hq⟩ : ∃ q, colP (bs t) k (gn : Nat) = q := ⟨_, rfl⟩
              rw [hq] at HM HTK HAN
              have hkd0 : decide ((k : Int) < 0) = false := decide_eq_false (by omega)
              clear hup hm hcm hln hq hAt hPs m
              go_wp2_with (first
                | (go_at_call 20; (with_reducible refine (HM.out _ (HT.out.below hb (Nat.le_refl _))).mono ?_); rintro e w5 ⟨rfl, hb5⟩; have K8 := Blk.new w5 36 [.int .u32 0, .int .i64 (q : Nat), .int .i64 (A : Nat), .int .i64 (gn : Nat)]; have hb8 := al (nx hb hb5) (.cells #[.int .u32 0, .int .i64 (q : Nat), .int .i64 (A : Nat), .int .i64 (gn : Nat)] 36); have KC := (hK.below hb5).alloc (.cells #[.int .u32 0, .int .i64 (q : Nat), .int .i64 (A : Nat), .int .i64 (gn : Nat)] 36); have x1 := K8.cell 1 rfl; have x2 := K8.cell 2 rfl; have x3 := K8.cell 3 rfl; have y2 := KC.cell 2 rfl; have K8 := Lib.hid K8; have KC := Lib.hid KC)
                | (go_at_call 30; (with_reducible refine (HTK.out _ (HT.out.below hb8 (Nat.le_refl _))).mono ?_); rintro e w9 ⟨rfl, hb9⟩; have L8 := K8.out.below hb9; have LC := KC.out.below hb9; have hb10 := nx hb8 hb9; have u0 := L8.cell 0 rfl; have u1 := L8.cell 1 rfl; have u2 := L8.cell 2 rfl; have u3 := L8.cell 3 rfl; have v0 := LC.cell 0 rfl; have v1 := LC.cell 1 rfl; have v2 := LC.cell 2 rfl; have v3 := LC.cell 3 rfl; have g0 := LC.frozen 0; have g1 := LC.frozen 1; have g2 := LC.frozen 2; have g3 := LC.frozen 3))
              exact ⟨⟨(k : Int) - 1, q, A, rfl, by omega, by omega, hAs, HAN, LC.set4 (.int .u32 0) (.int .i64 (q : Nat)) (.int .i64 (A : Nat)) (.int .i64 (gn : Nat)), below_set4 hb10 hcb _ _ _ _⟩, by simp [intOf]; omega⟩
            · obtain rfl : z = -1 := by omega
              rw [if_pos (by decide)] at hup
              have HM := Lib.hid (fun w hT => HMU.out P A hPs hAs _ hup.symm w hT)
              rw [show ((0 : Nat) : Int) = 0 from rfl] at HM
              have HAN := Lib.hid (show AtLn (bs t) (max ((-2 : Int) + 1) 0).toNat 0 from AtLn.zero _)
              clear hup hAt hPs
              go_wp2_with (first
                | (go_at_call 20; (with_reducible refine (HM.out _ (HT.out.below hb (Nat.le_refl _))).mono ?_); rintro e w5 ⟨rfl, hb5⟩; have K8 := Blk.new w5 36 [.int .u32 0, .int .i64 0, .int .i64 (A : Nat), .int .i64 (gn : Nat)]; have hb8 := al (nx hb hb5) (.cells #[.int .u32 0, .int .i64 0, .int .i64 (A : Nat), .int .i64 (gn : Nat)] 36); have KC := (hK.below hb5).alloc (.cells #[.int .u32 0, .int .i64 0, .int .i64 (A : Nat), .int .i64 (gn : Nat)] 36); have x0 := K8.cell 0 rfl; have x1 := K8.cell 1 rfl; have x2 := K8.cell 2 rfl; have x3 := K8.cell 3 rfl; have y0 := KC.cell 0 rfl; have y1 := KC.cell 1 rfl; have y2 := KC.cell 2 rfl; have y3 := KC.cell 3 rfl; have f0 := KC.frozen 0; have f1 := KC.frozen 1; have f2 := KC.frozen 2; have f3 := KC.frozen 3))
              exact ⟨⟨-2, 0, A, rfl, by omega, by omega, hAs, HAN, KC.set4 (.int .u32 0) (.int .i64 0) (.int .i64 (A : Nat)) (.int .i64 (gn : Nat)), below_set4 hb8 hcb _ _ _ _⟩, by simp [intOf]⟩
          · obtain rfl : z = -2 := by omega
            go_wp2_with fail
            go_ret
            exact ⟨rfl, hb⟩
end Go.Proofs.YtfoppbignompkaaDoor
