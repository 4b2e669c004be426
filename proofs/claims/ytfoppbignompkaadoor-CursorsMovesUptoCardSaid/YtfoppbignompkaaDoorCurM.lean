/-
  The walk of CursorsMoves: every text, cursor and motion.
-/
import Derived.Test.YtfoppbignompkaaDoorCurWords
import Derived.Test.YtfoppbignompkaaDoorLR
import Derived.Test.YtfoppbignompkaaDoorKR
namespace Go.Proofs.YtfoppbignompkaaDoor
open Go.RowKit

theorem at_full (l : Bs) : atN l (countN l) = l.length := (Cut.full l).at'
set_option maxRecDepth 10000 in
set_option maxHeartbeats 4000000 in
theorem refline_any (s : ByteArray) (hs : s.size ≤ 1048576) (k : Nat) (hk : k < lnN (bs s)) (g : Int) (hg : 0 ≤ g) (w : World) :
    Calls Tryd.prog 81 #[.string s, .int .i64 (k : Nat), .int .i64 g] w fun e w' => e = .returned (.int .i64 (colP (bs s) k g : Nat)) ∧ Below w.heap.size w w' := by
  have HA := Lib.hid (fun w => refall_at s hs w)
  have hcl := colP_le (bs s) k g hk
  have hNl := lnN_le (bs s)
  rw [← size_bs] at hcl hNl
  obtain ⟨g1, g2, _⟩ := ln_get (bs s) k hk
  rw [← size_bs] at g2
  have hP : bs (s.extract (lnA (bs s) k) (lnB (bs s) k)) = pieceL (bs s) (lnA (bs s) k) (lnB (bs s) k) := bs_extract _ _ _
  have hz : (s.extract (lnA (bs s) k) (lnB (bs s) k)).size ≤ 1048576 := by rw [ByteArray.size_extract]; omega
  have hpl := piece_len (bs s) k hk
  have HC := Lib.hid (fun w => refcount_any (s.extract (lnA (bs s) k) (lnB (bs s) k)) hz w)
  have HT := Lib.hid (fun c w => refat_any (s.extract (lnA (bs s) k) (lnB (bs s) k)) hz c w)
  rw [hP] at HC HT
  have HCO := Lib.hid (show colP (bs s) k g = if g ≤ (countN (pieceL (bs s) (lnA (bs s) k) (lnB (bs s) k)) : Int) then lnA (bs s) k + atN (pieceL (bs s) (lnA (bs s) k) (lnB (bs s) k)) g.toNat else lnB (bs s) k from rfl)
  obtain ⟨L, hL⟩ : ∃ L, pieceL (bs s) (lnA (bs s) k) (lnB (bs s) k) = L := ⟨_, rfl⟩
  rw [hL] at HC HT HCO hpl
  have hfull := at_full L
  obtain ⟨N, hN⟩ : ∃ N, countN L = N := ⟨_, rfl⟩
  have HATZ := Lib.hid (fun (c : Int) (h0 : 0 ≤ c) (h1 : c ≤ (N : Int)) => atZ_in (l := L) (c := c) ⟨h0, by rw [hN]; exact h1⟩)
  rw [hN] at HC HCO hfull
  have hk' := hk
  obtain ⟨n, hn⟩ : ∃ n, lnN (bs s) = n := ⟨_, rfl⟩
  have HAK := Lib.hid (fun (w' : World) ao (h : LinesAt w' ao (bs s)) => h k hk)
  rw [hn] at HA hk' hNl
  obtain ⟨A, hA⟩ : ∃ A, lnA (bs s) k = A := ⟨_, rfl⟩
  obtain ⟨B, hB⟩ : ∃ A, lnB (bs s) k = A := ⟨_, rfl⟩
  rw [hA, hB] at HC HT HCO HAK
  rw [hA] at g1 hpl
  rw [hB] at g1 g2 hpl
  have hBs : B ≤ s.size := by omega
  have hNN := bs_len_le s
  have hki : (k : Int) < (n : Int) := by omega
  have hk0 : (0 : Int) ≤ (k : Int) := by omega
  have hA0 : (0 : Int) ≤ (A : Int) := by omega
  have hABi : (A : Int) ≤ (B : Int) := by omega
  have hBi : (B : Int) ≤ (s.size : Int) := by omega
  have HF := Lib.hid (show A + atN L N = B by omega)
  have HGN := Lib.hid hN
  clear hP hz hpl hL hfull hN hk hn hA hB g2 hNN
  by_cases h : g ≤ (N : Int)
  · have hnd : decide ((N : Int) < g) = false := decide_eq_false (by omega)
    have HTG := Lib.hid (fun w => HT.out g w)
    have ha := Lib.hid (HATZ.out g hg h)
    rw [ha.out] at HTG
    have hco := HCO.out
    rw [if_pos h] at hco
    obtain ⟨x, hx⟩ : ∃ x, atN L g.toNat = x := ⟨_, rfl⟩
    rw [hx] at HTG hco
    rw [hco] at hcl ⊢
    have HE := Lib.hid (show ((A + x : Nat) : Int) = (A : Int) + (x : Int) by omega)
    have hAx : A + x ≤ 1048576 := by omega
    clear ha hx hco HCO HATZ HF HT hcl
    go_enter Tryd.func81, Tryd.ntmps81
    go_wp2_with (first
      | (go_at_call 76; (with_reducible refine (HA.out _).mono ?_); rintro e w1 ⟨ao, cap, rfl, hla, hb1⟩; obtain ⟨gg, rfl, d0, d1, -⟩ := HAK.out _ _ hla; clear hla; have tp := Two.new w1 49 (.int .i64 (A : Nat)) (.int .i64 (B : Nat)); have p0 := tp.cell0; have p1 := tp.cell1; have hb2 := al hb1 (.cells #[.int .i64 (A : Nat), .int .i64 (B : Nat)] 49))
      | (go_at_call 105; (with_reducible refine (HC.out _).mono ?_); rintro e w3 ⟨rfl, hb3⟩; have hb4 := nx hb2 hb3; have q0 := cellKeep p0 hb3; have q1 := cellKeep p1 hb3)
      | (go_at_call 106; (with_reducible refine (HTG.out _).mono ?_); rintro e w5 ⟨rfl, hb5⟩; have hb6 := nx hb4 hb5; have r0 := cellKeep q0 hb5))
    go_ret
    exact ⟨ret_int (a := (A : Int) + (x : Int)) (by rw [HE.out]), hb6⟩
  · have hnd : (N : Int) < g := by omega
    have HTG := Lib.hid (fun w => HT.out (N : Nat) w)
    have ha := Lib.hid (HATZ.out (N : Nat) (by omega) (Int.le_refl _))
    rw [ha.out, Int.toNat_natCast] at HTG
    have hco := HCO.out
    rw [if_neg h] at hco
    rw [hco]
    obtain ⟨x, hx⟩ : ∃ x, atN L N = x := ⟨_, rfl⟩
    have hF := HF.out
    rw [hx] at HTG hF
    have HE := Lib.hid (show ((B : Nat) : Int) = (A : Int) + (x : Int) by omega)
    have hAx : A + x ≤ 1048576 := by omega
    clear ha hx hco HCO HATZ HF HT hcl hF
    go_enter Tryd.func81, Tryd.ntmps81
    go_wp2_with (first
      | (go_at_call 76; (with_reducible refine (HA.out _).mono ?_); rintro e w1 ⟨ao, cap, rfl, hla, hb1⟩; obtain ⟨gg, rfl, d0, d1, -⟩ := HAK.out _ _ hla; clear hla; have tp := Two.new w1 49 (.int .i64 (A : Nat)) (.int .i64 (B : Nat)); have p0 := tp.cell0; have p1 := tp.cell1; have hb2 := al hb1 (.cells #[.int .i64 (A : Nat), .int .i64 (B : Nat)] 49))
      | (go_at_call 105; (with_reducible refine (HC.out _).mono ?_); rintro e w3 ⟨rfl, hb3⟩; have hb4 := nx hb2 hb3; have q0 := cellKeep p0 hb3; have q1 := cellKeep p1 hb3)
      | (go_at_call 106; (with_reducible refine (HTG.out _).mono ?_); rintro e w5 ⟨rfl, hb5⟩; have hb6 := nx hb4 hb5; have r0 := cellKeep q0 hb5))
    go_ret
    exact ⟨ret_int (a := (A : Int) + (x : Int)) (by rw [HE.out]), hb6⟩

set_option maxRecDepth 100000 in
set_option maxHeartbeats 8000000 in
theorem refto_any (s : ByteArray) (hs : s.size ≤ 1048576) (p : Nat) (hp : p ≤ s.size) (g : Int) (hg : 0 ≤ g) (m : Nat) (h1 : 1 ≤ m) (h8 : m ≤ 8) (w : World) :
    Calls Tryd.prog 49 #[.string s, .int .i64 (p : Nat), .int .i64 g, .int .i64 (m : Nat)] w fun e w' => e = .returned (.int .i64 (movV (bs s) p g m : Nat)) ∧ Below w.heap.size w w' := by
  have HW := Lib.hid (fun w => refwhere_at s hs p hp w)
  have HA := Lib.hid (fun w => refall_at s hs w)
  have hL := (lnOf_is (bs s) p).1
  have hNl := lnN_le (bs s)
  rw [← size_bs] at hNl
  have HAK := Lib.hid (fun (w' : World) ao (h : LinesAt w' ao (bs s)) => h _ hL)
  have HLI := Lib.hid (fun k hk w => refline_any s hs k hk g hg w)
  have HMV := Lib.hid (show ∀ m, movV (bs s) p g m = movV (bs s) p g m from fun _ => rfl)
  have h5 : movV (bs s) p g 5 = if lnOf (bs s) p = 0 then 0 else colP (bs s) (lnOf (bs s) p - 1) g := rfl
  have h6 : movV (bs s) p g 6 = if lnOf (bs s) p + 1 = lnN (bs s) then s.size else colP (bs s) (lnOf (bs s) p + 1) g := by rw [size_bs]; rfl
  have h7 : movV (bs s) p g 7 = lnA (bs s) (lnOf (bs s) p) := rfl
  have hh8 : movV (bs s) p g 8 = lnB (bs s) (lnOf (bs s) p) := rfl
  have hz1 : (s.extract 0 p).size ≤ 1048576 := by rw [ByteArray.size_extract]; omega
  have HLA := Lib.hid (fun w => reflast_any (s.extract 0 p) hz1 w)
  have hz2 : (s.extract p s.size).size ≤ 140737488351232 := by rw [ByteArray.size_extract]; omega
  have HFI := Lib.hid (fun w => reffirst_any (s.extract p s.size) hz2 w)
  have hle1 := lW_le (bs (s.extract 0 p))
  rw [← size_bs, ByteArray.size_extract] at hle1
  have hle2 := fW_len (bs (s.extract p s.size))
  rw [← size_bs, ByteArray.size_extract] at hle2
  have h1' : movV (bs s) p g 1 = p - lW (bs (s.extract 0 p)) := by rw [bs_take]; rfl
  have h2' : movV (bs s) p g 2 = p + fW (bs (s.extract p s.size)) := by rw [bs_drop]; rfl
  have HBK := Lib.hid (fun w => refback_any s hs (p : Nat) w)
  have HNX := Lib.hid (fun w => refnext_any s hs (p : Nat) w)
  obtain ⟨L, hLe⟩ : ∃ L, lnOf (bs s) p = L := ⟨_, rfl⟩
  obtain ⟨C, hC⟩ : ∃ C, colOf (bs s) p = C := ⟨_, rfl⟩
  rw [hLe] at HW hL HAK h5 h6 h7 hh8
  rw [hC] at HW
  obtain ⟨n, hn⟩ : ∃ n, lnN (bs s) = n := ⟨_, rfl⟩
  rw [hn] at HA hL hNl h6 HLI
  obtain ⟨A, hA⟩ : ∃ A, lnA (bs s) L = A := ⟨_, rfl⟩
  obtain ⟨B, hB⟩ : ∃ A, lnB (bs s) L = A := ⟨_, rfl⟩
  rw [hA, hB] at HAK
  rw [hA] at h7
  rw [hB] at hh8
  obtain ⟨x, hx⟩ : ∃ x, lW (bs (s.extract 0 p)) = x := ⟨_, rfl⟩
  obtain ⟨y, hy⟩ : ∃ y, fW (bs (s.extract p s.size)) = y := ⟨_, rfl⟩
  rw [hx] at HLA hle1 h1'
  rw [hy] at HFI hle2 h2'
  have hxp : x ≤ p := by omega
  have hyp : p + y ≤ s.size := by omega
  have hLn : (L : Int) < (n : Int) := by omega
  have hL0 : (0 : Int) ≤ (L : Int) := by omega
  have hp0 : (0 : Int) ≤ (p : Int) := by omega
  have hpi : (p : Int) ≤ (s.size : Int) := by omega
  have hLb : L ≤ 1048577 := by omega
  have hnb : n ≤ 1048577 := by omega
  clear hLe hC hn hA hB hx hy hz1 hz2 hle1 hle2 HMV
  match m, h1, h8 with
  | 1, _, _ =>
    rw [show ((1 : Nat) : Int) = 1 from rfl, h1']
    have HE := Lib.hid (show ((p - x : Nat) : Int) = (p : Int) - (x : Int) by omega)
    clear h1' h2' h5 h6 h7 hh8
    go_enter Tryd.func49, Tryd.ntmps49
    go_wp2_with (first
      | (go_at_call 50; (with_reducible refine (HW.out _).mono ?_); rintro e w1 ⟨rfl, hb1⟩; have tS := Two.new w1 45 (.int .i64 (L : Nat)) (.int .i64 (C : Nat)); have hb2 := al hb1 (.cells #[.int .i64 (L : Nat), .int .i64 (C : Nat)] 45))
      | (go_at_call 76; (with_reducible refine (HA.out _).mono ?_); rintro e w3 ⟨ao, cap, rfl, hla, hb3⟩; obtain ⟨gg, rfl, d0, d1, -⟩ := HAK.out _ _ hla; clear hla; have s0 := cellKeep tS.cell0 hb3; have hb4 := nx hb2 hb3)
      | (go_at_call 77; (with_reducible refine (HLA.out _).mono ?_); rintro e w5 ⟨rfl, hb5⟩; have hb6 := nx hb4 hb5))
    go_ret
    exact ⟨ret_int (a := (p : Int) - (x : Int)) (by rw [HE.out]), hb6⟩
  | 2, _, _ =>
    rw [show ((2 : Nat) : Int) = 2 from rfl, h2']
    have HE := Lib.hid (show ((p + y : Nat) : Int) = (p : Int) + (y : Int) by omega)
    clear h1' h2' h5 h6 h7 hh8
    go_enter Tryd.func49, Tryd.ntmps49
    go_wp2_with (first
      | (go_at_call 50; (with_reducible refine (HW.out _).mono ?_); rintro e w1 ⟨rfl, hb1⟩; have tS := Two.new w1 45 (.int .i64 (L : Nat)) (.int .i64 (C : Nat)); have hb2 := al hb1 (.cells #[.int .i64 (L : Nat), .int .i64 (C : Nat)] 45))
      | (go_at_call 76; (with_reducible refine (HA.out _).mono ?_); rintro e w3 ⟨ao, cap, rfl, hla, hb3⟩; obtain ⟨gg, rfl, d0, d1, -⟩ := HAK.out _ _ hla; clear hla; have s0 := cellKeep tS.cell0 hb3; have hb4 := nx hb2 hb3)
      | (go_at_call 78; (with_reducible refine (HFI.out _).mono ?_); rintro e w5 ⟨rfl, hb5⟩; have hb6 := nx hb4 hb5))
    go_ret
    exact ⟨ret_int (a := (p : Int) + (y : Int)) (by rw [HE.out]), hb6⟩
  | 3, _, _ =>
    rw [show ((3 : Nat) : Int) = 3 from rfl, show movV (bs s) p g 3 = backV (bs s) (intoM (bs s) (p : Nat)) from rfl]
    clear h1' h2' h5 h6 h7 hh8
    go_enter Tryd.func49, Tryd.ntmps49
    go_wp2_with (first
      | (go_at_call 50; (with_reducible refine (HW.out _).mono ?_); rintro e w1 ⟨rfl, hb1⟩; have tS := Two.new w1 45 (.int .i64 (L : Nat)) (.int .i64 (C : Nat)); have hb2 := al hb1 (.cells #[.int .i64 (L : Nat), .int .i64 (C : Nat)] 45))
      | (go_at_call 76; (with_reducible refine (HA.out _).mono ?_); rintro e w3 ⟨ao, cap, rfl, hla, hb3⟩; obtain ⟨gg, rfl, d0, d1, -⟩ := HAK.out _ _ hla; clear hla; have s0 := cellKeep tS.cell0 hb3; have hb4 := nx hb2 hb3)
      | (go_at_call 79; (with_reducible refine (HBK.out _).mono ?_); rintro e w5 ⟨rfl, hb5⟩; have hb6 := nx hb4 hb5))
    go_ret
    exact ⟨rfl, hb6⟩
  | 4, _, _ =>
    rw [show ((4 : Nat) : Int) = 4 from rfl, show movV (bs s) p g 4 = nextV (bs s) (intoM (bs s) (p : Nat)) from rfl]
    clear h1' h2' h5 h6 h7 hh8
    go_enter Tryd.func49, Tryd.ntmps49
    go_wp2_with (first
      | (go_at_call 50; (with_reducible refine (HW.out _).mono ?_); rintro e w1 ⟨rfl, hb1⟩; have tS := Two.new w1 45 (.int .i64 (L : Nat)) (.int .i64 (C : Nat)); have hb2 := al hb1 (.cells #[.int .i64 (L : Nat), .int .i64 (C : Nat)] 45))
      | (go_at_call 76; (with_reducible refine (HA.out _).mono ?_); rintro e w3 ⟨ao, cap, rfl, hla, hb3⟩; obtain ⟨gg, rfl, d0, d1, -⟩ := HAK.out _ _ hla; clear hla; have s0 := cellKeep tS.cell0 hb3; have hb4 := nx hb2 hb3)
      | (go_at_call 80; (with_reducible refine (HNX.out _).mono ?_); rintro e w5 ⟨rfl, hb5⟩; have hb6 := nx hb4 hb5))
    go_ret
    exact ⟨rfl, hb6⟩
  | 5, _, _ =>
    rw [show ((5 : Nat) : Int) = 5 from rfl, h5]
    by_cases hl0 : L = 0
    · rw [if_pos hl0]
      have hle : ((L : Int) == 0) = true := beq_iff_eq.2 (by omega)
      clear h1' h2' h5 h6 h7 hh8 hl0
      go_enter Tryd.func49, Tryd.ntmps49
      go_wp2_with (first
        | (go_at_call 50; (with_reducible refine (HW.out _).mono ?_); rintro e w1 ⟨rfl, hb1⟩; have tS := Two.new w1 45 (.int .i64 (L : Nat)) (.int .i64 (C : Nat)); have hb2 := al hb1 (.cells #[.int .i64 (L : Nat), .int .i64 (C : Nat)] 45))
        | (go_at_call 76; (with_reducible refine (HA.out _).mono ?_); rintro e w3 ⟨ao, cap, rfl, hla, hb3⟩; obtain ⟨gg, rfl, d0, d1, -⟩ := HAK.out _ _ hla; clear hla; have s0 := cellKeep tS.cell0 hb3; have hb4 := nx hb2 hb3)
        | fail)
      go_ret
      exact ⟨rfl, hb4⟩
    · rw [if_neg hl0]
      have hle : ((L : Int) == 0) = false := beq_eq_false_iff_ne.2 (by omega)
      have HC := Lib.hid (fun w => HLI.out (L - 1) (by omega) w)
      rw [show ((L - 1 : Nat) : Int) = (L : Int) - 1 by omega] at HC
      clear h1' h2' h5 h6 h7 hh8 hl0
      go_enter Tryd.func49, Tryd.ntmps49
      go_wp2_with (first
        | (go_at_call 50; (with_reducible refine (HW.out _).mono ?_); rintro e w1 ⟨rfl, hb1⟩; have tS := Two.new w1 45 (.int .i64 (L : Nat)) (.int .i64 (C : Nat)); have hb2 := al hb1 (.cells #[.int .i64 (L : Nat), .int .i64 (C : Nat)] 45))
        | (go_at_call 76; (with_reducible refine (HA.out _).mono ?_); rintro e w3 ⟨ao, cap, rfl, hla, hb3⟩; obtain ⟨gg, rfl, d0, d1, -⟩ := HAK.out _ _ hla; clear hla; have s0 := cellKeep tS.cell0 hb3; have hb4 := nx hb2 hb3)
        | (go_at_call 81; (with_reducible refine (HC.out _).mono ?_); rintro e w5 ⟨rfl, hb5⟩; have hb6 := nx hb4 hb5))
      go_ret
      exact ⟨rfl, hb6⟩
  | 6, _, _ =>
    rw [show ((6 : Nat) : Int) = 6 from rfl, h6]
    by_cases hl0 : L + 1 = n
    · rw [if_pos hl0]
      have hle : ((L : Int) == (n : Int) - 1) = true := beq_iff_eq.2 (by omega)
      clear h1' h2' h5 h6 h7 hh8 hl0
      go_enter Tryd.func49, Tryd.ntmps49
      go_wp2_with (first
        | (go_at_call 50; (with_reducible refine (HW.out _).mono ?_); rintro e w1 ⟨rfl, hb1⟩; have tS := Two.new w1 45 (.int .i64 (L : Nat)) (.int .i64 (C : Nat)); have hb2 := al hb1 (.cells #[.int .i64 (L : Nat), .int .i64 (C : Nat)] 45))
        | (go_at_call 76; (with_reducible refine (HA.out _).mono ?_); rintro e w3 ⟨ao, cap, rfl, hla, hb3⟩; obtain ⟨gg, rfl, d0, d1, -⟩ := HAK.out _ _ hla; clear hla; have s0 := cellKeep tS.cell0 hb3; have hb4 := nx hb2 hb3)
        | fail)
      go_ret
      exact ⟨rfl, hb4⟩
    · rw [if_neg hl0]
      have hle : ((L : Int) == (n : Int) - 1) = false := beq_eq_false_iff_ne.2 (by omega)
      have HC := Lib.hid (fun w => HLI.out (L + 1) (by omega) w)
      rw [show ((L + 1 : Nat) : Int) = (L : Int) + 1 by omega] at HC
      clear h1' h2' h5 h6 h7 hh8 hl0
      go_enter Tryd.func49, Tryd.ntmps49
      go_wp2_with (first
        | (go_at_call 50; (with_reducible refine (HW.out _).mono ?_); rintro e w1 ⟨rfl, hb1⟩; have tS := Two.new w1 45 (.int .i64 (L : Nat)) (.int .i64 (C : Nat)); have hb2 := al hb1 (.cells #[.int .i64 (L : Nat), .int .i64 (C : Nat)] 45))
        | (go_at_call 76; (with_reducible refine (HA.out _).mono ?_); rintro e w3 ⟨ao, cap, rfl, hla, hb3⟩; obtain ⟨gg, rfl, d0, d1, -⟩ := HAK.out _ _ hla; clear hla; have s0 := cellKeep tS.cell0 hb3; have hb4 := nx hb2 hb3)
        | (go_at_call 81; (with_reducible refine (HC.out _).mono ?_); rintro e w5 ⟨rfl, hb5⟩; have hb6 := nx hb4 hb5))
      go_ret
      exact ⟨rfl, hb6⟩
  | 7, _, _ =>
    rw [show ((7 : Nat) : Int) = 7 from rfl, h7]
    clear h1' h2' h5 h6 h7 hh8
    go_enter Tryd.func49, Tryd.ntmps49
    go_wp2_with (first
      | (go_at_call 50; (with_reducible refine (HW.out _).mono ?_); rintro e w1 ⟨rfl, hb1⟩; have tS := Two.new w1 45 (.int .i64 (L : Nat)) (.int .i64 (C : Nat)); have hb2 := al hb1 (.cells #[.int .i64 (L : Nat), .int .i64 (C : Nat)] 45))
      | (go_at_call 76; (with_reducible refine (HA.out _).mono ?_); rintro e w3 ⟨ao, cap, rfl, hla, hb3⟩; obtain ⟨gg, rfl, d0, d1, -⟩ := HAK.out _ _ hla; clear hla; have s0 := cellKeep tS.cell0 hb3; have hb4 := nx hb2 hb3)
      | fail)
    go_ret
    exact ⟨rfl, hb4⟩
  | 8, _, _ =>
    rw [show ((8 : Nat) : Int) = 8 from rfl, hh8]
    clear h1' h2' h5 h6 h7 hh8
    go_enter Tryd.func49, Tryd.ntmps49
    go_wp2_with (first
      | (go_at_call 50; (with_reducible refine (HW.out _).mono ?_); rintro e w1 ⟨rfl, hb1⟩; have tS := Two.new w1 45 (.int .i64 (L : Nat)) (.int .i64 (C : Nat)); have hb2 := al hb1 (.cells #[.int .i64 (L : Nat), .int .i64 (C : Nat)] 45))
      | (go_at_call 76; (with_reducible refine (HA.out _).mono ?_); rintro e w3 ⟨ao, cap, rfl, hla, hb3⟩; obtain ⟨gg, rfl, d0, d1, -⟩ := HAK.out _ _ hla; clear hla; have s0 := cellKeep tS.cell0 hb3; have hb4 := nx hb2 hb3)
      | fail)
    go_ret
    exact ⟨rfl, hb4⟩
end Go.Proofs.YtfoppbignompkaaDoor

namespace Go.Proofs.YtfoppbignompkaaDoor
open Go.RowKit

theorem refmove_arg (s : ByteArray) (i a b g m : Int) (k : Bool) (hm : m < 1 ∨ 8 < m) (w : World) :
    Calls Tryd.prog 21 #[.string s, curV i a b g, .int .i64 m, .bool k] w fun e w' => e = .returned (.tuple #[curV 0 0 0 0, .int .i64 2]) ∧ Below w.heap.size w w' := by
  go_enter Tryd.func21, Tryd.ntmps21
  have hz := (Blk.new (w.alloc (.cells #[.int .u32 i, .int .i64 a, .int .i64 b, .int .i64 g] 36)) 36 [.int .u32 0, .int .i64 0, .int .i64 0, .int .i64 0])
  rw [World.size_alloc] at hz
  have z0 := hz.cell 0 rfl
  have z1 := hz.cell 1 rfl
  have z2 := hz.cell 2 rfl
  have z3 := hz.cell 3 rfl
  clear hz
  go_wp2_with fail
  all_goals exact bodyPost_ret (v := .tuple #[curV 0 0 0 0, .int .i64 2]) (by simp [results, Tryd.results21, go_sem, z0, z1, z2, z3]) rfl ⟨rfl, al (al (Below.refl _ _) _) _⟩

set_option maxRecDepth 10000 in
set_option maxHeartbeats 4000000 in
theorem refmove_bad (s : ByteArray) (i a b g m : Int) (k : Bool) (hm : 1 ≤ m ∧ m ≤ 8) (hx : a < 0 ∨ b < 0 ∨ g < 0 ∨ (s.size : Int) < a ∨ (s.size : Int) < b) (w : World) :
    Calls Tryd.prog 21 #[.string s, curV i a b g, .int .i64 m, .bool k] w fun e w' => e = .returned (.tuple #[curV 0 0 0 0, .int .i64 200]) ∧ Below w.heap.size w w' := by
  obtain ⟨hm1, hm2⟩ := hm
  have hc0 := (Blk.new w 36 [.int .u32 i, .int .i64 a, .int .i64 b, .int .i64 g]).alloc (.cells #[.int .u32 0, .int .i64 0, .int .i64 0, .int .i64 0] 36)
  have hz := (Blk.new (w.alloc (.cells #[.int .u32 i, .int .i64 a, .int .i64 b, .int .i64 g] 36)) 36 [.int .u32 0, .int .i64 0, .int .i64 0, .int .i64 0])
  have hb0 : Below w.heap.size w _ := al (al (Below.refl _ _) (.cells #[.int .u32 i, .int .i64 a, .int .i64 b, .int .i64 g] 36)) (.cells #[.int .u32 0, .int .i64 0, .int .i64 0, .int .i64 0] 36)
  rw [World.size_alloc] at hz
  obtain ⟨W, hW⟩ : ∃ W, (w.alloc (.cells #[.int .u32 i, .int .i64 a, .int .i64 b, .int .i64 g] 36)).alloc (.cells #[.int .u32 0, .int .i64 0, .int .i64 0, .int .i64 0] 36) = W := ⟨_, rfl⟩
  replace hc0 : Blk W w.heap.size 36 [.int .u32 i, .int .i64 a, .int .i64 b, .int .i64 g] := hW ▸ hc0
  replace hz : Blk W (w.heap.size + 1) 36 [.int .u32 0, .int .i64 0, .int .i64 0, .int .i64 0] := hW ▸ hz
  replace hb0 : Below w.heap.size w W := hW ▸ hb0
  have c0 := hc0.cell 0 rfl
  have c1 := hc0.cell 1 rfl
  have c2 := hc0.cell 2 rfl
  have c3 := hc0.cell 3 rfl
  have hd1 : decide (m < 1) = false := decide_eq_false (by omega)
  have hd2 : decide (8 < m) = false := decide_eq_false (by omega)
  have z0 := hz.cell 0 rfl
  have z1 := hz.cell 1 rfl
  have z2 := hz.cell 2 rfl
  have z3 := hz.cell 3 rfl
  have f0 := hz.frozen 0
  have f1 := hz.frozen 1
  have f2 := hz.frozen 2
  have f3 := hz.frozen 3
  have hy := hz.set4 (.int .u32 0) (.int .i64 0) (.int .i64 0) (.int .i64 0)
  have y0 := hy.cell 0 rfl
  have y1 := hy.cell 1 rfl
  have y2 := hy.cell 2 rfl
  have y3 := hy.cell 3 rfl
  go_enter Tryd.func21, Tryd.ntmps21
  go_wp2_with fail
  all_goals
    first | (exfalso; omega) | exact bodyPost_ret (v := .tuple #[curV 0 0 0 0, .int .i64 200]) (by simp [results, Tryd.results21, go_sem, y0, y1, y2, y3]) rfl ⟨rfl, below_set4 hb0 (Nat.le_succ _) _ _ _ _⟩

set_option maxRecDepth 100000 in
set_option maxHeartbeats 8000000 in
theorem refmove_ok (s : ByteArray) (hs : s.size ≤ 1048576) (i : Int) (a b : Nat) (g : Int) (ha : a ≤ s.size) (hb : b ≤ s.size) (hg : 0 ≤ g) (m : Nat) (hm1 : 1 ≤ m) (hm8 : m ≤ 8) (k : Bool) (q : Nat)
    (hq : q = movV (bs s) (atN (bs s) (intoM (bs s) (a : Nat))) g m) (B2 G2 : Int) (hB2 : B2 = if k = true then ((b : Nat) : Int) else ((q : Nat) : Int)) (hG2 : G2 = if m = 5 ∨ m = 6 then g else ((colOf (bs s) q : Nat) : Int)) (w : World) :
    Calls Tryd.prog 21 #[.string s, curV i (a : Nat) (b : Nat) g, .int .i64 (m : Nat), .bool k] w fun e w' =>
      e = .returned (.tuple #[curV i (q : Nat) B2 G2, .int .i64 0]) ∧ Below w.heap.size w w' := by
  have HB2 := Lib.hid hB2
  have HG2 := Lib.hid hG2
  clear hB2 hG2
  have hc0 := (Blk.new w 36 [.int .u32 i, .int .i64 (a : Nat), .int .i64 (b : Nat), .int .i64 g]).alloc (.cells #[.int .u32 0, .int .i64 0, .int .i64 0, .int .i64 0] 36)
  have hz := (Blk.new (w.alloc (.cells #[.int .u32 i, .int .i64 (a : Nat), .int .i64 (b : Nat), .int .i64 g] 36)) 36 [.int .u32 0, .int .i64 0, .int .i64 0, .int .i64 0])
  have hb0 : Below w.heap.size w _ := al (al (Below.refl _ _) (.cells #[.int .u32 i, .int .i64 (a : Nat), .int .i64 (b : Nat), .int .i64 g] 36)) (.cells #[.int .u32 0, .int .i64 0, .int .i64 0, .int .i64 0] 36)
  rw [World.size_alloc] at hz
  obtain ⟨W, hW⟩ : ∃ W, (w.alloc (.cells #[.int .u32 i, .int .i64 (a : Nat), .int .i64 (b : Nat), .int .i64 g] 36)).alloc (.cells #[.int .u32 0, .int .i64 0, .int .i64 0, .int .i64 0] 36) = W := ⟨_, rfl⟩
  replace hc0 : Blk W w.heap.size 36 [.int .u32 i, .int .i64 (a : Nat), .int .i64 (b : Nat), .int .i64 g] := hW ▸ hc0
  replace hz : Blk W (w.heap.size + 1) 36 [.int .u32 0, .int .i64 0, .int .i64 0, .int .i64 0] := hW ▸ hz
  replace hb0 : Below w.heap.size w W := hW ▸ hb0
  have c0 := hc0.cell 0 rfl
  have c1 := hc0.cell 1 rfl
  have c2 := hc0.cell 2 rfl
  have c3 := hc0.cell 3 rfl
  have M0 : Moved w W i b g a := ⟨hc0, hz, hb0⟩
  obtain ⟨-, hMq, hql, hM1, hM2⟩ := into_find (bs s) (a : Nat)
  have hcl : clampN (bs s) (a : Nat) = a := by unfold clampN; rw [← size_bs]; omega
  rw [hcl] at hMq hM2
  obtain ⟨p, hp⟩ : ∃ p, atN (bs s) (intoM (bs s) (a : Nat)) = p := ⟨_, rfl⟩
  rw [hp] at hMq hM1 hM2 hq
  have hps : p ≤ s.size := by omega
  have HFC := Lib.hid (fun w => refto_any s hs p hps g hg m hm1 hm8 w)
  have hqs : q ≤ s.size := by rw [hq, size_bs]; exact movV_le _ _ _ _ (by rw [← size_bs]; exact hps)
  rw [← hq] at HFC
  have HWH := Lib.hid (fun w => refwhere_at s hs q hqs w)
  have HM := Lib.hid (And.intro hM1 hM2)
  have hai : ((a : Nat) : Int) ≤ (s.size : Int) := by omega
  have hbi : ((b : Nat) : Int) ≤ (s.size : Int) := by omega
  have hda : decide (s.size < a) = false := decide_eq_false (by omega)
  have hdb : decide (s.size < b) = false := decide_eq_false (by omega)
  have hdg : decide (g < 0) = false := decide_eq_false (by omega)
  have hd1 : decide ((m : Int) < 1) = false := decide_eq_false (by omega)
  have hd2 : decide (8 < (m : Int)) = false := decide_eq_false (by omega)
  clear hc0 hz hM1 hM2 hql hcl hp hq
  go_enter Tryd.func21, Tryd.ntmps21
  go_wp2_with fail
  clear c0 c1 c2 c3 hW hd1 hd2 hda hdb hdg
  go_loopw [10] (fun v wr => ∃ q' : Nat, v = .int .i64 (q' : Nat) ∧ p ≤ q' ∧ q' ≤ a ∧ Moved w wr i b g a) (fun v _ => (intOf v).toNat)
  case atStart => exact ⟨a, rfl, hMq, Nat.le_refl _, M0⟩
  case round =>
    clear M0 hb0
    obtain ⟨q', rfl, h1, h2, MR⟩ := hrel
    by_cases he : q' = p
    · subst he
      have HB := Lib.hid (fun w => refbegs_any s hs (q' : Nat) w)
      rw [begB_t (by rw [← size_bs]; omega) HM.out.1] at HB
      go_wp2_with (first
        | (go_at_call 48; (with_reducible refine (HB.out _).mono ?_); rintro e w2 ⟨rfl, hb2⟩; have M2 := MR.below hb2; have x3 := M2.c.cell 3 rfl))
      (with_reducible refine (HFC.out _).mono ?_)
      rintro e w5 ⟨rfl, hb5⟩
      have M5 := M2.below hb5
      have u1 := M5.c.cell 1 rfl
      have uf := M5.c.frozen 1
      have M6 := M5.set (q : Nat)
      clear M2 x3 MR HB hb2 hb5
      cases k
      · have v1 := M6.c.cell 1 rfl
        have v2 := M6.c.cell 2 rfl
        have vf := M6.c.frozen 2
        have M7 := M6.set2 (q : Nat)
        have hB2 := HB2.out
        rw [if_neg (by decide)] at hB2
        subst hB2
        by_cases h5 : m = 5 ∨ m = 6
        · have hG2 := HG2.out
          rw [if_pos h5] at hG2
          subst hG2
          have M9 := M7
          clear M6 HG2 HB2 HWH
          have n0 := M9.c.cell 0 rfl
          have n1 := M9.c.cell 1 rfl
          have n2 := M9.c.cell 2 rfl
          have n3 := M9.c.cell 3 rfl
          have z0 := M9.z.cell 0 rfl
          have z1 := M9.z.cell 1 rfl
          have z2 := M9.z.cell 2 rfl
          have z3 := M9.z.cell 3 rfl
          have f0 := M9.z.frozen 0
          have f1 := M9.z.frozen 1
          have f2 := M9.z.frozen 2
          have f3 := M9.z.frozen 3
          rcases h5 with rfl | rfl
          · go_wp2_with fail
            obtain ⟨y0, y1, y2, y3, hbF⟩ := M9.store
            refine bodyPost_ret ?_ rfl ⟨rfl, hbF⟩
            simp [results, Tryd.results21, go_sem, y0, y1, y2, y3]
          · go_wp2_with fail
            obtain ⟨y0, y1, y2, y3, hbF⟩ := M9.store
            refine bodyPost_ret ?_ rfl ⟨rfl, hbF⟩
            simp [results, Tryd.results21, go_sem, y0, y1, y2, y3]
        · have hG2 := HG2.out
          rw [if_neg h5] at hG2
          have hn5 : ((m : Int) != 5) = true := bne_iff_ne.2 (by omega)
          have hn6 : ((m : Int) != 6) = true := bne_iff_ne.2 (by omega)
          have n1 := M7.c.cell 1 rfl
          obtain ⟨C, hC⟩ : ∃ C : Nat, colOf (bs s) q = C := ⟨_, rfl⟩
          rw [hC] at HWH hG2
          subst hG2
          clear h5 hC HG2 HB2
          go_wp2_with (go_at_call 50; (with_reducible refine (HWH.out _).mono ?_); rintro e w8 ⟨rfl, hb8⟩; have M8 := (M7.below hb8).below ((Below.refl w8.heap.size w8).alloc (Nat.le_refl _) (.cells #[.int .i64 (lnOf (bs s) q : Nat), .int .i64 (C : Nat)] 45)); have s1 := (Two.new w8 45 (.int .i64 (lnOf (bs s) q : Nat)) (.int .i64 (C : Nat))).cell1; have r3 := M8.c.cell 3 rfl; have rf3 := M8.c.frozen 3; have M9 := M8.set3 (C : Nat); have n0 := M9.c.cell 0 rfl; have n1 := M9.c.cell 1 rfl; have n2 := M9.c.cell 2 rfl; have n3 := M9.c.cell 3 rfl; have z0 := M9.z.cell 0 rfl; have z1 := M9.z.cell 1 rfl; have z2 := M9.z.cell 2 rfl; have z3 := M9.z.cell 3 rfl; have f0 := M9.z.frozen 0; have f1 := M9.z.frozen 1; have f2 := M9.z.frozen 2; have f3 := M9.z.frozen 3)
          obtain ⟨y0, y1, y2, y3, hbF⟩ := M9.store
          refine bodyPost_ret ?_ rfl ⟨rfl, hbF⟩
          simp [results, Tryd.results21, go_sem, y0, y1, y2, y3]
      · have M7 := M6
        have hB2 := HB2.out
        rw [if_pos rfl] at hB2
        subst hB2
        by_cases h5 : m = 5 ∨ m = 6
        · have hG2 := HG2.out
          rw [if_pos h5] at hG2
          subst hG2
          have M9 := M7
          clear M6 HG2 HB2 HWH
          have n0 := M9.c.cell 0 rfl
          have n1 := M9.c.cell 1 rfl
          have n2 := M9.c.cell 2 rfl
          have n3 := M9.c.cell 3 rfl
          have z0 := M9.z.cell 0 rfl
          have z1 := M9.z.cell 1 rfl
          have z2 := M9.z.cell 2 rfl
          have z3 := M9.z.cell 3 rfl
          have f0 := M9.z.frozen 0
          have f1 := M9.z.frozen 1
          have f2 := M9.z.frozen 2
          have f3 := M9.z.frozen 3
          rcases h5 with rfl | rfl
          · go_wp2_with fail
            obtain ⟨y0, y1, y2, y3, hbF⟩ := M9.store
            refine bodyPost_ret ?_ rfl ⟨rfl, hbF⟩
            simp [results, Tryd.results21, go_sem, y0, y1, y2, y3]
          · go_wp2_with fail
            obtain ⟨y0, y1, y2, y3, hbF⟩ := M9.store
            refine bodyPost_ret ?_ rfl ⟨rfl, hbF⟩
            simp [results, Tryd.results21, go_sem, y0, y1, y2, y3]
        · have hG2 := HG2.out
          rw [if_neg h5] at hG2
          have hn5 : ((m : Int) != 5) = true := bne_iff_ne.2 (by omega)
          have hn6 : ((m : Int) != 6) = true := bne_iff_ne.2 (by omega)
          have n1 := M7.c.cell 1 rfl
          obtain ⟨C, hC⟩ : ∃ C : Nat, colOf (bs s) q = C := ⟨_, rfl⟩
          rw [hC] at HWH hG2
          subst hG2
          clear h5 hC HG2 HB2
          go_wp2_with (go_at_call 50; (with_reducible refine (HWH.out _).mono ?_); rintro e w8 ⟨rfl, hb8⟩; have M8 := (M7.below hb8).below ((Below.refl w8.heap.size w8).alloc (Nat.le_refl _) (.cells #[.int .i64 (lnOf (bs s) q : Nat), .int .i64 (C : Nat)] 45)); have s1 := (Two.new w8 45 (.int .i64 (lnOf (bs s) q : Nat)) (.int .i64 (C : Nat))).cell1; have r3 := M8.c.cell 3 rfl; have rf3 := M8.c.frozen 3; have M9 := M8.set3 (C : Nat); have n0 := M9.c.cell 0 rfl; have n1 := M9.c.cell 1 rfl; have n2 := M9.c.cell 2 rfl; have n3 := M9.c.cell 3 rfl; have z0 := M9.z.cell 0 rfl; have z1 := M9.z.cell 1 rfl; have z2 := M9.z.cell 2 rfl; have z3 := M9.z.cell 3 rfl; have f0 := M9.z.frozen 0; have f1 := M9.z.frozen 1; have f2 := M9.z.frozen 2; have f3 := M9.z.frozen 3)
          obtain ⟨y0, y1, y2, y3, hbF⟩ := M9.store
          refine bodyPost_ret ?_ rfl ⟨rfl, hbF⟩
          simp [results, Tryd.results21, go_sem, y0, y1, y2, y3]
    · have HB := Lib.hid (fun w => refbegs_any s hs (q' : Nat) w)
      rw [begB_f (by rw [← size_bs]; omega) (HM.out.2 q' (by omega) h2)] at HB
      have hq1 : 1 ≤ q' := by omega
      have HK := Lib.hid (show ((q' : Int) - 1) = ((q' - 1 : Nat) : Int) by omega)
      have hqb : q' ≤ 140737488351232 := by omega
      go_wp2_with (first | (go_at_call 48; (with_reducible refine (HB.out _).mono ?_); rintro e w2 ⟨rfl, hb2⟩; have M2 := MR.below hb2))
      exact ⟨⟨q' - 1, congrArg (Value.int .i64) HK.out, by omega, by omega, M2⟩, by simp [intOf]; omega⟩
end Go.Proofs.YtfoppbignompkaaDoor

namespace Go.Proofs.YtfoppbignompkaaDoor
open Go.RowKit

/-- both Moves answer the same -/
theorem move_both (s : ByteArray) (hs : s.size ≤ 1048576) (i a b g m : Int) (k : Bool) :
    ∃ x0 x1 x2 x3 er : Int, (∀ w, Tabs w → Calls Tryd.prog 20 #[.string s, curV i a b g, .int .i64 m, .bool k] w fun e w' => e = .returned (.tuple #[curV x0 x1 x2 x3, .int .i64 er]) ∧ Below w.heap.size w w') ∧
      (∀ w, Calls Tryd.prog 21 #[.string s, curV i a b g, .int .i64 m, .bool k] w fun e w' => e = .returned (.tuple #[curV x0 x1 x2 x3, .int .i64 er]) ∧ Below w.heap.size w w') := by
  by_cases hm : m < 1 ∨ 8 < m
  · exact ⟨_, _, _, _, _, fun w _ => move_arg s i a b g m k hm w, fun w => refmove_arg s i a b g m k hm w⟩
  · by_cases hx : a < 0 ∨ b < 0 ∨ g < 0 ∨ (s.size : Int) < a ∨ (s.size : Int) < b
    · exact ⟨_, _, _, _, _, fun w _ => move_bad s i a b g m k (by omega) hx w, fun w => refmove_bad s i a b g m k (by omega) hx w⟩
    · obtain ⟨a', rfl⟩ : ∃ n : Nat, a = (n : Int) := ⟨a.toNat, by omega⟩
      obtain ⟨b', rfl⟩ : ∃ n : Nat, b = (n : Int) := ⟨b.toNat, by omega⟩
      obtain ⟨m', rfl⟩ : ∃ n : Nat, m = (n : Int) := ⟨m.toNat, by omega⟩
      exact ⟨_, _, _, _, _, fun w hT => move_ok s (by omega) i a' b' g (by omega) (by omega) (by omega) m' (by omega) (by omega) k _ rfl _ _ rfl rfl w hT, fun w => refmove_ok s hs i a' b' g (by omega) (by omega) (by omega) m' (by omega) (by omega) k _ rfl _ _ rfl rfl w⟩

theorem eq_cur_self (i a d g : Int) (w : World) : (Op.equalIn 10000 36 (curV i a d g) (curV i a d g)).run Tryd.prog w = .ok true w := by
  rw [eq_cur]
  simp

/-- the struct Going as a value -/
abbrev goingV (s : ByteArray) (i a b g m : Int) (k : Bool) : Value := .agg #[.string s, .int .u32 i, .int .i64 a, .int .i64 b, .int .i64 g, .int .i64 m, .bool k]

set_option maxRecDepth 100000 in
set_option maxHeartbeats 8000000 in
theorem cursorsMoves_any (s : ByteArray) (hs : s.size ≤ 1048576) (i a b g m : Int) (k : Bool) (w : World) (hT : Tabs w) :
    Calls Tryd.prog 4 #[goingV s i a b g m k] w fun e w' => e = .returned (.bool true) ∧ Below w.heap.size w w' := by
  have HT := Lib.hid hT
  have HAW := Lib.hid (fun w hT => cawake_any w hT)
  have HMB := Lib.hid (fun m => move_both s hs i a b g m k)
  obtain ⟨x0, x1, x2, x3, er, h1, h2⟩ := HMB.out m
  have H1 := Lib.hid h1
  have H2 := Lib.hid h2
  have hq := fun (w : World) => eq_cur_self x0 x1 x2 x3 w
  have gc := guard_cur
  have K0 := Blk.new w 38 [.string s, .int .u32 i, .int .i64 a, .int .i64 b, .int .i64 g, .int .i64 m, .bool k]
  have hb0 : Below w.heap.size w _ := al (Below.refl _ _) (.cells #[.string s, .int .u32 i, .int .i64 a, .int .i64 b, .int .i64 g, .int .i64 m, .bool k] 38)
  obtain ⟨W, hW⟩ : ∃ W, w.alloc (.cells #[.string s, .int .u32 i, .int .i64 a, .int .i64 b, .int .i64 g, .int .i64 m, .bool k] 38) = W := ⟨_, rfl⟩
  replace K0 : Blk W w.heap.size 38 [.string s, .int .u32 i, .int .i64 a, .int .i64 b, .int .i64 g, .int .i64 m, .bool k] := hW ▸ K0
  replace hb0 : Below w.heap.size w W := hW ▸ hb0
  have a0 := K0.cell 0 rfl
  have a1 := K0.cell 1 rfl
  have a2 := K0.cell 2 rfl
  have a3 := K0.cell 3 rfl
  have a4 := K0.cell 4 rfl
  have a5 := K0.cell 5 rfl
  have a6 := K0.cell 6 rfl
  clear hT h1 h2
  go_enter Tryd.func4, Tryd.ntmps4
  go_wp2_with (first
    | (go_at_call 20; (with_reducible refine (H1.out _ (HT.out.below hb0 (Nat.le_refl _))).mono ?_); rintro e w1 ⟨rfl, hb1⟩; have hb2 := al (nx hb0 hb1) (.cells #[.int .u32 x0, .int .i64 x1, .int .i64 x2, .int .i64 x3] 36); have K2 := Lib.hid ((K0.below hb1).alloc (.cells #[.int .u32 x0, .int .i64 x1, .int .i64 x2, .int .i64 x3] 36)); have A2 := Lib.hid (Blk.new w1 36 [.int .u32 x0, .int .i64 x1, .int .i64 x2, .int .i64 x3]); have b0 := K2.out.cell 0 rfl; have b1 := K2.out.cell 1 rfl; have b2 := K2.out.cell 2 rfl; have b3 := K2.out.cell 3 rfl; have b4 := K2.out.cell 4 rfl; have b5 := K2.out.cell 5 rfl; have b6 := K2.out.cell 6 rfl)
    | (go_at_call 21; (with_reducible refine (H2.out _).mono ?_); rintro e w3 ⟨rfl, hb3⟩; have hb4 := al (nx hb2 hb3) (.cells #[.int .u32 x0, .int .i64 x1, .int .i64 x2, .int .i64 x3] 36); have K4 := (K2.out.below hb3).alloc (.cells #[.int .u32 x0, .int .i64 x1, .int .i64 x2, .int .i64 x3] 36); have A4 := (A2.out.below hb3).alloc (.cells #[.int .u32 x0, .int .i64 x1, .int .i64 x2, .int .i64 x3] 36); have B4 := Blk.new w3 36 [.int .u32 x0, .int .i64 x1, .int .i64 x2, .int .i64 x3]; have c0 := A4.cell 0 rfl; have c1 := A4.cell 1 rfl; have c2 := A4.cell 2 rfl; have c3 := A4.cell 3 rfl; have d0 := B4.cell 0 rfl; have d1 := B4.cell 1 rfl; have d2 := B4.cell 2 rfl; have d3 := B4.cell 3 rfl))
  have hs1 := hb1.size
  have hs3 := hb3.size
  have hlW := K0.lt
  have hs0 := hb0.size
  have hlA := A4.lt
  rw [World.size_alloc] at hlA
  obtain ⟨V, hV⟩ : ∃ V, w3.alloc (.cells #[.int .u32 x0, .int .i64 x1, .int .i64 x2, .int .i64 x3] 36) = V := ⟨_, rfl⟩
  replace B4 : Blk V w3.heap.size 36 [.int .u32 x0, .int .i64 x1, .int .i64 x2, .int .i64 x3] := hV ▸ B4
  rw [hV] at hb4 K4 A4 ⊢
  have hA2l := A2.out.lt
  obtain ⟨p3, hp3⟩ : ∃ p, w1.heap.size = p := ⟨_, rfl⟩
  obtain ⟨p5, hp5⟩ : ∃ p, w3.heap.size = p := ⟨_, rfl⟩
  rw [World.size_alloc, hp3] at hs3
  rw [hp3] at hs1 A4 ⊢
  rw [hp5] at B4 hs3 ⊢
  have hn1 : w.heap.size ≠ p3 := by omega
  have hn2 : w.heap.size ≠ p5 := by omega
  have hn3 : p3 ≠ p5 := by omega
  have hl3 : w.heap.size ≤ p3 := by omega
  have hl5 : w.heap.size ≤ p5 := by omega
  clear hV hp3 hp5 A2 K2 hA2l hb1 hb2 hb3 hb0 K0 hW a0 a1 a2 a3 a4 a5 a6 b0 b1 b2 b3 b4 b5 b6 c0 c1 c2 c3 d0 d1 d2 d3 H1 H2 hq hlW hlA hs0 hs1 hs3
  have K := Lib.hid K4
  have A := Lib.hid A4
  have B := Lib.hid B4
  clear K4 A4 B4
  go_loopw [7] (fun j wr => ∃ z : Int, j = .int .i64 z ∧ 0 ≤ z ∧ z ≤ 10 ∧ Hid (Blk wr w.heap.size 38 [.string s, .int .u32 i, .int .i64 a, .int .i64 b, .int .i64 g, .int .i64 m, .bool k]) ∧ Hid (∃ y0 y1 y2 y3, Blk wr p3 36 [y0, y1, y2, y3]) ∧ Hid (∃ y0 y1 y2 y3, Blk wr p5 36 [y0, y1, y2, y3]) ∧ Below w.heap.size w wr) (fun j _ => (10 - intOf j).toNat)
  case atStart => exact ⟨0, rfl, by omega, by omega, K, Lib.hid ⟨_, _, _, _, A.out⟩, Lib.hid ⟨_, _, _, _, B.out⟩, hb4⟩
  case round =>
    clear K A B hb4
    obtain ⟨z, rfl, hz0, hz1, hK, hA, hB, hb⟩ := hrel
    by_cases hz : z ≤ 9
    · obtain ⟨x0, x1, x2, x3, er, h1, h2⟩ := HMB.out z
      obtain ⟨y0, y1, y2, y3, A⟩ := hA.out
      obtain ⟨t0, t1, t2, t3, B⟩ := hB.out
      have H1 := Lib.hid h1
      have H2 := Lib.hid h2
      have A := Lib.hid A
      have B := Lib.hid B
      have hq := fun (w : World) => eq_cur_self x0 x1 x2 x3 w
      have a0 := hK.out.cell 0 rfl
      have a1 := hK.out.cell 1 rfl
      have a2 := hK.out.cell 2 rfl
      have a3 := hK.out.cell 3 rfl
      have a4 := hK.out.cell 4 rfl
      have a6 := hK.out.cell 6 rfl
      clear h1 h2 hA hB
      go_wp2_with (first
        | (go_at_call 20; (with_reducible refine (H1.out _ (HT.out.below hb (Nat.le_refl _))).mono ?_); rintro e w5 ⟨rfl, hb5⟩; have A5 := A.out.below hb5; have p0 := A5.cell 0 rfl; have p1 := A5.cell 1 rfl; have p2 := A5.cell 2 rfl; have p3' := A5.cell 3 rfl; have f0 := A5.frozen 0; have f1 := A5.frozen 1; have f2 := A5.frozen 2; have f3 := A5.frozen 3; have A6 := Lib.hid (A5.set4 (.int .u32 x0) (.int .i64 x1) (.int .i64 x2) (.int .i64 x3)); have K6 := Lib.hid ((hK.out.below hb5).other4 hn1 (.int .u32 x0) (.int .i64 x1) (.int .i64 x2) (.int .i64 x3)); have B6 := Lib.hid ((B.out.below hb5).other4 hn3.symm (.int .u32 x0) (.int .i64 x1) (.int .i64 x2) (.int .i64 x3)); have hb6 := below_set4 (nx hb hb5) hl3 (.int .u32 x0) (.int .i64 x1) (.int .i64 x2) (.int .i64 x3); have b0 := K6.out.cell 0 rfl; have b1 := K6.out.cell 1 rfl; have b2 := K6.out.cell 2 rfl; have b3 := K6.out.cell 3 rfl; have b4 := K6.out.cell 4 rfl; have b6 := K6.out.cell 6 rfl; clear A5)
        | (go_at_call 21; (with_reducible refine (H2.out _).mono ?_); rintro e w7 ⟨rfl, hb7⟩; have B7 := B6.out.below hb7; have q0 := B7.cell 0 rfl; have q1 := B7.cell 1 rfl; have q2 := B7.cell 2 rfl; have q3 := B7.cell 3 rfl; have g0 := B7.frozen 0; have g1 := B7.frozen 1; have g2 := B7.frozen 2; have g3 := B7.frozen 3; have B8 := B7.set4 (.int .u32 x0) (.int .i64 x1) (.int .i64 x2) (.int .i64 x3); have A8 := (A6.out.below hb7).other4 hn3 (.int .u32 x0) (.int .i64 x1) (.int .i64 x2) (.int .i64 x3); have K8 := Lib.hid ((K6.out.below hb7).other4 hn2 (.int .u32 x0) (.int .i64 x1) (.int .i64 x2) (.int .i64 x3)); have hb8 := below_set4 (nx hb6 hb7) hl5 (.int .u32 x0) (.int .i64 x1) (.int .i64 x2) (.int .i64 x3); have r0 := A8.cell 0 rfl; have r1 := A8.cell 1 rfl; have r2 := A8.cell 2 rfl; have r3 := A8.cell 3 rfl; have s0 := B8.cell 0 rfl; have s1 := B8.cell 1 rfl; have s2 := B8.cell 2 rfl; have s3 := B8.cell 3 rfl; have A8 := Lib.hid A8; have B8 := Lib.hid B8))
      exact ⟨⟨z + 1, rfl, by omega, by omega, K8, Lib.hid ⟨_, _, _, _, A8.out⟩, Lib.hid ⟨_, _, _, _, B8.out⟩, hb8⟩, by simp [intOf]; omega⟩
    · obtain rfl : z = 10 := by omega
      go_wp2_with (go_at_call 19; (with_reducible refine (HAW.out _ (HT.out.below hb (Nat.le_refl _))).mono ?_); rintro e w9 ⟨rfl, hb9⟩)
      go_ret
      exact ⟨rfl, nx hb hb9⟩
end Go.Proofs.YtfoppbignompkaaDoor
