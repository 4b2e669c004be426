/-
  The walk of LinesWhole: nothing is lost.
-/
import Derived.Test.YtebmjmohhpkonaaDoorLWholeLaw
import Derived.Test.YtebmjmohhpkonaaDoorLSplit
import Derived.Test.YtebmjmohhpkonaaDoorLCount
import Derived.Test.YtebmjmohhpkonaaDoorLWorks
namespace Go.Proofs.YtebmjmohhpkonaaDoor
open Go.RowKit

theorem bs_lnT (s : ByteArray) (k : Nat) : bs (lnT s k) = cutL (bs s) (lnA (bs s) k) (lnB (bs s) k + lnE (bs s) k) := by
  unfold lnT cutL
  rw [bs_extract]
  rfl
/-- the lines' texts lie in a row -/
def TextsAt (w : World) (g : Nat) (s : ByteArray) : Prop := ∀ k, k < lnN (bs s) → w.cell? ⟨g, k, none⟩ = some (.string (lnT s k))
theorem lsplit_at (s : ByteArray) (hs : s.size ≤ 1048576) (w : World) (hT : Tabs w) :
    Calls Tryd.prog 25 #[.string s] w fun e w' => ∃ g, e = .returned (.slice (some ⟨g, 0, none⟩) (lnN (bs s)) (lnN (bs s))) ∧ TextsAt w' g s ∧ g < w'.heap.size ∧ Below w.heap.size w w' := by
  refine (lsplit_any s (by omega) w hT).mono ?_
  rintro e w' ⟨g, cap, rfl, hown, hb⟩
  refine ⟨g, rfl, fun k hk => ?_, (hown.lt g rfl).2, hb⟩
  rw [hown.cellAt k (by omega), List.getElem?_map, List.getElem?_range hk]
  rfl

set_option maxHeartbeats 2000000 in
theorem bare_any (t : ByteArray) (ht : t.size ≤ 140737488351232) (b : Bool) (m : Nat) (hlow : ∀ j, j < m → endN (bs t) j = 0) (h : (b = true ∧ m = t.size) ∨ (b = false ∧ endN (bs t) m ≠ 0 ∧ m + endN (bs t) m = t.size)) (w : World) (hT : Tabs w) :
    Calls Tryd.prog 28 #[.string t, .bool b] w fun e w' => e = .returned (.bool true) ∧ Below w.heap.size w w' := by
  have HT := Lib.hid hT
  have HL := Lib.hid hlow
  have hm : m ≤ t.size := by rcases h with ⟨_, h⟩ | ⟨_, _, h⟩ <;> omega
  have HE := Lib.hid (fun c w hT => lend_any t ht c w hT)
  clear hT hlow
  obtain ⟨L, hL⟩ : ∃ L, bs t = L := ⟨_, rfl⟩
  rw [hL] at h HL HE
  clear hL
  go_enter Tryd.func28, Tryd.ntmps28
  go_wp2_with fail
  go_loopw [5] (fun i wr => ∃ c : Nat, i = .int .i64 (c : Nat) ∧ c ≤ m ∧ Below w.heap.size w wr) (fun i _ => t.size - (intOf i).toNat)
  case atStart => exact ⟨0, rfl, Nat.zero_le _, Below.refl _ _⟩
  case round =>
    obtain ⟨c, rfl, hc, hb⟩ := hrel
    by_cases h1 : c < m
    · have hct : (c : Int) < (t.size : Int) := by omega
      have HEE := Lib.hid (fun w hT => HE.out (c : Nat) w hT)
      rw [endZ_nat, HL.out c h1, show nzB 0 = false from rfl] at HEE
      clear h HE
      go_wp2_with (first | (go_at_call 11; (with_reducible refine (HEE.out _ (HT.out.below hb (Nat.le_refl _))).mono ?_); rintro e w1 ⟨rfl, hb1⟩; have hbb := nx hb hb1))
      exact ⟨⟨c + 1, by go_num, by omega, hbb⟩, by simp [intOf]; omega⟩
    · obtain rfl : c = m := by omega
      rcases h with ⟨rfl, rfl⟩ | ⟨rfl, h2, h3⟩
      · go_wp2_with fail
        go_ret
        exact ⟨rfl, hb⟩
      · have HEE := Lib.hid (fun w hT => HE.out (c : Nat) w hT)
        rw [endZ_nat, show nzB (endN L c) = true from bne_iff_ne.2 h2] at HEE
        obtain ⟨x, hx⟩ : ∃ x, endN L c = x := ⟨_, rfl⟩
        rw [hx] at HEE h2 h3
        clear hx HE
        have hct : (c : Int) < (t.size : Int) := by omega
        have hsum : (c : Int) + (x : Int) = (t.size : Int) := by omega
        clear h2 h3
        go_wp2_with (first | (go_at_call 11; (with_reducible refine (HEE.out _ (HT.out.below hb (Nat.le_refl _))).mono ?_); rintro e w1 ⟨rfl, hb1⟩; have hbb := nx hb hb1))
        go_ret
        exact ⟨rfl, hbb⟩

/-- where line k begins; behind the last one the end -/
def begL (l : Bs) (k : Nat) : Nat := if k < lnN l then lnA l k else l.length
theorem begL_next (l : Bs) (k : Nat) (hk : k < lnN l) : begL l (k + 1) = lnB l k + lnE l k := by
  obtain ⟨g1, g2, g3, g4, g5, g6, g7⟩ := ln_get l k hk
  unfold begL
  by_cases h : k + 1 < lnN l
  · rw [if_pos h, (g7 h).2]
  · rw [if_neg h, (g6 (by omega)).1, (g6 (by omega)).2]
    rfl
/-- bare of a line -/
theorem bare_line (s : ByteArray) (hs : s.size ≤ 1048576) (k : Nat) (hk : k < lnN (bs s)) (b : Bool) (hb : b = decide (k + 1 = lnN (bs s))) (w : World) (hT : Tabs w) :
    Calls Tryd.prog 28 #[.string (lnT s k), .bool b] w fun e w' => e = .returned (.bool true) ∧ Below w.heap.size w w' := by
  obtain ⟨g1, g2, g3, g4, g5, g6, g7⟩ := ln_get (bs s) k hk
  have hl := cut_len (l := bs s) (a := lnA (bs s) k) (b := lnB (bs s) k + lnE (bs s) k) (by omega) g2
  have hsz : (lnT s k).size = lnB (bs s) k + lnE (bs s) k - lnA (bs s) k := by rw [size_bs, bs_lnT, hl]
  rw [size_bs] at hs
  refine bare_any (lnT s k) (by omega) b (lnB (bs s) k - lnA (bs s) k) (fun j hj => by rw [bs_lnT]; exact cut_no _ k hk j hj) ?_ w hT
  by_cases h : k + 1 = lnN (bs s)
  · left
    have := g6 h
    exact ⟨by rw [hb]; exact decide_eq_true h, by omega⟩
  · right
    have h1 := g7 (by omega)
    have h2 := cut_end (bs s) k (by omega)
    refine ⟨by rw [hb]; exact decide_eq_false h, ?_, ?_⟩
    · rw [bs_lnT, h2]; exact h1.1
    · rw [bs_lnT, h2]; omega

theorem s1_keep {W0 W W' : World} {g1 i1 : Nat} {v1 : Value} (H : W.cell? ⟨g1, i1, none⟩ = some v1 ∧ Below W0.heap.size W0 W) (hb : Below W.heap.size W W') :
    W'.cell? ⟨g1, i1, none⟩ = some v1 ∧ Below W0.heap.size W0 W' := ⟨cellKeep H.1 hb, nx H.2 hb⟩

set_option maxRecDepth 100000 in
set_option maxHeartbeats 8000000 in
theorem linesWhole_any (s : ByteArray) (hs : s.size ≤ 1048576) (w : World) (hT : Tabs w) :
    Calls Tryd.prog 8 #[.string s] w fun e w' => e = .returned (.bool true) ∧ Below w.heap.size w w' := by
  have HT := Lib.hid hT
  have HW := Lib.hid works_any
  have HC := Lib.hid (fun w hT => lcount_any s (by omega) w hT)
  have HS := Lib.hid (fun w hT => lsplit_at s hs w hT)
  have hN := lnN_le (bs s)
  have hP := lnN_pos (bs s)
  rw [← size_bs] at hN
  clear hT
  obtain ⟨n, hn⟩ : ∃ n, lnN (bs s) = n := ⟨_, rfl⟩
  rw [hn] at HC HS hN hP
  have HNN := Lib.hid hn
  clear hn
  have hnz : (((n : Nat) : Int) == 0) = false := beq_eq_false_iff_ne.2 (by omega)
  have hnn : (((n : Nat) : Int) != (n : Int)) = false := by simp
  go_enter Tryd.func8, Tryd.ntmps8
  go_wp2_with (first
    | (go_at_call 25; (with_reducible refine (HS.out _ HT.out).mono ?_); rintro e w1 ⟨g, rfl, htx, hgl, hb1⟩)
    | (go_at_call 20; (with_reducible refine (HC.out _ (HT.out.below hb1 (Nat.le_refl _))).mono ?_); rintro e w2 ⟨rfl, hb2⟩))
  have HX := Lib.hid htx
  have hb12 : Below w.heap.size w w2 := hb1.trans (hb2.mono hb1.size)
  clear htx
  go_loopw [4, 5] (fun a i wr => ∃ k : Nat, i = .int .i64 (k : Nat) ∧ a = .int .i64 (begL (bs s) k : Nat) ∧ k ≤ n ∧ Below w1.heap.size w1 wr) (fun _ i _ => n - (intOf i).toNat)
  case atStart => exact ⟨0, rfl, by unfold begL; rw [if_pos (by rw [HNN.out]; omega), lnA_zero]; rfl, Nat.zero_le _, hb2⟩
  case round =>
    obtain ⟨k, rfl, rfl, hk, hbr⟩ := hrel
    by_cases h1 : k < n
    · have h1i : (k : Int) < (n : Int) := by omega
      have hk' : k < lnN (bs s) := by rw [HNN.out]; exact h1
      have d0 := cellKeep (HX.out k hk') hbr
      obtain ⟨g1, g2, g3, -⟩ := ln_get (bs s) k hk'
      have hB1 : begL (bs s) k = lnA (bs s) k := by unfold begL; rw [if_pos hk']
      have hB2 := Lib.hid (begL_next (bs s) k hk')
      obtain ⟨b, hb⟩ : ∃ b, b = decide (k + 1 = n) := ⟨_, rfl⟩
      have HBR := Lib.hid (fun w hT => bare_line s hs k hk' b (by rw [HNN.out]; exact hb) w hT)
      have HLN := Lib.hid (fun w hT => lline_at s (by omega) k hk' w hT)
      have hbi : ((k : Int) + 1 == (n : Int)) = b := by rw [hb, Bool.eq_iff_iff, beq_iff_eq, decide_eq_true_eq]; omega
      have hex : s.extract (lnA (bs s) k) (lnB (bs s) k + lnE (bs s) k) = lnT s k := rfl
      have hsz : (lnT s k).size = lnB (bs s) k + lnE (bs s) k - lnA (bs s) k := by rw [← hex, ByteArray.size_extract, size_bs s, Nat.min_eq_left g2]
      rw [hB1]
      rw [← size_bs] at g2
      clear hb hk' hB1
      obtain ⟨T, hT'⟩ : ∃ T, lnT s k = T := ⟨_, rfl⟩
      obtain ⟨A, hA⟩ : ∃ A, lnA (bs s) k = A := ⟨_, rfl⟩
      obtain ⟨B, hB⟩ : ∃ A, lnB (bs s) k = A := ⟨_, rfl⟩
      obtain ⟨E, hE⟩ : ∃ A, lnE (bs s) k = A := ⟨_, rfl⟩
      rw [hT'] at d0 HBR hex hsz
      rw [hA] at g1 HLN hex hsz ⊢
      rw [hB] at g1 g2 HLN hB2 hex hsz
      rw [hE] at g2 g3 HLN hB2 hex hsz
      clear hT' hA hB hE
      obtain ⟨To, hTo⟩ : ∃ To, B + E = To := ⟨_, rfl⟩
      rw [hTo] at g2 hB2 hex hsz
      have hTi : (To : Int) - (E : Int) = (B : Int) := by omega
      have hAi : (A : Int) + (T.size : Int) = (To : Int) := by omega
      have hw1 : IntKind.i64.wrap (To : Int) = (To : Int) := IntWalk.i64_in _ (by omega)
      have hw2 : IntKind.i64.wrap (B : Int) = (B : Int) := IntWalk.i64_in _ (by omega)
      have hw3 : IntKind.i64.wrap ((k : Int) + 1) = (k : Int) + 1 := IntWalk.i64_in _ (by omega)
      have hToz : decide (s.size < To) = false := decide_eq_false (by omega)
      have hAT : A ≤ To := by omega
      clear hTo hsz
      have hwr : Below w.heap.size w wr := nx hb1 hbr
      by_cases h2 : k ≤ 50
      · have h2i : (k : Int) ≤ 50 := by omega
        go_wp2_with (first
          | (go_at_call 23; (with_reducible refine (HLN.out _ (HT.out.below hwr (Nat.le_refl _))).mono ?_); rintro e wl ⟨rfl, hbl⟩; have t1 := Two.new wl 41 (.int .i64 (A : Nat)) (.int .i64 (B : Nat)); have e0 := t1.cell0; have e1 := t1.cell1; have dl := cellKeep d0 hbl; have hltl := World.block_lt_of_cell? wl _ dl))
        have hbY0 : Below wr.heap.size wr (wl.alloc (.cells #[.int .i64 (A : Nat), .int .i64 (B : Nat)] 41)) := al hbl _
        obtain ⟨Y0, hY0⟩ : ∃ Y, wl.alloc (.cells #[.int .i64 (A : Nat), .int .i64 (B : Nat)] 41) = Y := ⟨_, rfl⟩
        obtain ⟨p, hp⟩ : ∃ p, wl.heap.size = p := ⟨_, rfl⟩
        rw [hp] at e0 e1 ⊢
        rw [hY0] at hbY0 e0 e1 ⊢
        have dY := cellKeep d0 hbY0
        clear hY0 hp dl hltl t1
        have hS : Y0.cell? ⟨g, k, none⟩ = some (.string T) ∧ Y0.cell? ⟨p, 0, none⟩ = some (.int .i64 (A : Nat)) ∧ Y0.cell? ⟨p, 1, none⟩ = some (.int .i64 (B : Nat)) := ⟨dY, e0, e1⟩
        go_region_held_law (fun w' => w'.cell? ⟨g, k, none⟩ = some (.string T) ∧ w'.cell? ⟨p, 0, none⟩ = some (.int .i64 (A : Nat)) ∧ w'.cell? ⟨p, 1, none⟩ = some (.int .i64 (B : Nat))) (first | (with_reducible assumption) | exact hS) (fail)
        have hbY : Below wr.heap.size wr Y0.drew := hbY0.drew
        clear hS e0 e1 dY
        obtain ⟨Y, hY⟩ : ∃ Y, Y0.drew = Y := ⟨_, rfl⟩
        rw [hY] at hbY ⊢
        clear hY
        have hS : Y.cell? ⟨g, k, none⟩ = some (.string T) ∧ Below wr.heap.size wr Y := ⟨cellKeep d0 hbY, hbY⟩
        have hYw : Below w.heap.size w Y := nx hwr hbY
        go_wp2_with fail
        go_region_held_law (fun w' => w'.cell? ⟨g, k, none⟩ = some (.string T) ∧ Below wr.heap.size wr w') (first | (with_reducible assumption) | (with_reducible exact s1_keep (by assumption) (by assumption)) | (with_reducible exact s1_keep hS (Below.refl _ _).drew))
          (first | (go_at_call 28; (with_reducible refine (HBR.out _ (HT.out.below hYw.drew (Nat.le_refl _))).mono ?_); rintro e wb ⟨rfl, hbb⟩; have hYb := nx hbY.drew hbb; have db := cellKeep d0 hYb))
        go_wp2_with fail
        exact ⟨⟨k + 1, by go_num, by rw [hB2.out], by omega, nx hbr hYb⟩, by simp [intOf]; omega⟩
      · have h2i : decide ((k : Int) ≤ 50) = false := decide_eq_false (by omega)
        go_wp2_with fail
        have hbY : Below wr.heap.size wr wr := Below.refl _ _
        obtain ⟨Y, hY⟩ : ∃ Y, Y = wr := ⟨_, rfl⟩
        have d1 := d0
        rw [← hY] at d1 ⊢
        have hbY : Below wr.heap.size wr Y := by rw [hY]; exact Below.refl _ _
        clear hY
        have hS : Y.cell? ⟨g, k, none⟩ = some (.string T) ∧ Below wr.heap.size wr Y := ⟨cellKeep d0 hbY, hbY⟩
        have hYw : Below w.heap.size w Y := nx hwr hbY
        go_wp2_with fail
        go_region_held_law (fun w' => w'.cell? ⟨g, k, none⟩ = some (.string T) ∧ Below wr.heap.size wr w') (first | (with_reducible assumption) | (with_reducible exact s1_keep (by assumption) (by assumption)) | (with_reducible exact s1_keep hS (Below.refl _ _).drew))
          (first | (go_at_call 28; (with_reducible refine (HBR.out _ (HT.out.below hYw.drew (Nat.le_refl _))).mono ?_); rintro e wb ⟨rfl, hbb⟩; have hYb := nx hbY.drew hbb; have db := cellKeep d0 hYb))
        go_wp2_with fail
        exact ⟨⟨k + 1, by go_num, by rw [hB2.out], by omega, nx hbr hYb⟩, by simp [intOf]; omega⟩
    · obtain rfl : k = n := by omega
      have h1i : decide (k < k) = false := decide_eq_false (by omega)
      have hE : begL (bs s) k = s.size := by unfold begL; rw [if_neg (by rw [HNN.out]; omega), ← size_bs]
      rw [hE]
      have hwr : Below w.heap.size w wr := nx hb1 hbr
      clear hE
      go_wp2_with (go_at_call 13; (with_reducible refine (HW.out _ (HT.out.below hwr (Nat.le_refl _))).mono ?_); rintro e w5 ⟨rfl, hb5⟩)
      go_ret
      exact ⟨rfl, nx hwr hb5⟩
end Go.Proofs.YtebmjmohhpkonaaDoor
