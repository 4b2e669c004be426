/-
  The law's list of stops: its contract.
-/
import Derived.Test.YtkknmbkfiiidmaaDoorRefAlike
namespace Go.Proofs.YtkknmbkfiiidmaaDoor
open Go.RowKit

theorem info_int5 : (Tryd.prog.info? 3).map (fun i => (i.zero, i.size, i.bytes)) = some (some (.int .i64 0), 1, 8) := by kernel_rfl

set_option maxHeartbeats 2000000 in
theorem lclass_any (s : ByteArray) (r n : Nat) (hs : s.size ≠ 0) (hr : (Lib.decodeL (bs s)).1 = r) (hn : (Lib.decodeL (bs s)).2 = n) (w : World) (hT : Tabs w) :
    Calls Tryd.prog 47 #[.string s] w fun e w' => e = .returned (.int .i64 (cls (r : Nat) : Nat)) ∧ Below w.heap.size w w' := by
  have HF := Lib.hid (first_some s (r : Int) n hs (by rw [hr]) hn w hT)
  have HB := Lib.hid (fun w => blank_any (r : Int) w)
  have HW := Lib.hid (fun w => word_any (r : Int) w)
  obtain ⟨ri, hri⟩ : ∃ x, rightR (r : Int) n = x := ⟨_, rfl⟩
  have hwr : ri = false → cls (r : Nat) = 2 := by
    intro h
    rw [h] at hri
    unfold rightR at hri
    simp at hri
    rw [hri.1]
    decide +kernel
  rw [hri] at HF
  obtain ⟨b1, hb1⟩ : ∃ b, blankB (r : Int) = b := ⟨_, rfl⟩
  obtain ⟨b2, hb2⟩ : ∃ b, wordB (r : Int) = b := ⟨_, rfl⟩
  have hc : cls (r : Nat) = if b1 = true then 0 else if b2 = true then 1 else 2 := by unfold cls; rw [hb1, hb2]
  obtain ⟨c, hcc⟩ : ∃ c, cls ((r : Nat) : Int) = c := ⟨_, rfl⟩
  rw [hb1] at HB
  rw [hb2] at HW
  rw [hcc] at hwr hc ⊢
  have HWR := Lib.hid hwr
  have HC := Lib.hid hc
  clear hT hr hn hri hb1 hb2 hcc hwr hc
  go_enter Tryd.func47, Tryd.ntmps47
  cases ri
  · have HV := Lib.hid (HWR.out rfl)
    go_wp2_with (first | (go_at_call 49; (with_reducible refine HF.out.mono ?_); rintro e w1 ⟨rfl, hb1⟩))
    go_ret
    exact ⟨ret_int (by rw [HV.out]; rfl), hb1⟩
  · cases b1
    · cases b2
      · have HV := Lib.hid (show c = 2 by rw [HC.out]; rfl)
        go_wp2_with (first | (go_at_call 49; (with_reducible refine HF.out.mono ?_); rintro e w1 ⟨rfl, hb1⟩) | (go_at_call 12; (with_reducible refine (HB.out _).mono ?_); rintro e w2 ⟨rfl, rfl⟩) | (go_at_call 14; (with_reducible refine (HW.out _).mono ?_); rintro e w2 ⟨rfl, rfl⟩))
        go_ret
        exact ⟨ret_int (by rw [HV.out]; rfl), hb1⟩
      · have HV := Lib.hid (show c = 1 by rw [HC.out]; rfl)
        go_wp2_with (first | (go_at_call 49; (with_reducible refine HF.out.mono ?_); rintro e w1 ⟨rfl, hb1⟩) | (go_at_call 12; (with_reducible refine (HB.out _).mono ?_); rintro e w2 ⟨rfl, rfl⟩) | (go_at_call 14; (with_reducible refine (HW.out _).mono ?_); rintro e w2 ⟨rfl, rfl⟩))
        go_ret
        exact ⟨ret_int (by rw [HV.out]; rfl), hb1⟩
    · have HV := Lib.hid (show c = 0 by rw [HC.out]; rfl)
      go_wp2_with (first | (go_at_call 49; (with_reducible refine HF.out.mono ?_); rintro e w1 ⟨rfl, hb1⟩) | (go_at_call 12; (with_reducible refine (HB.out _).mono ?_); rintro e w2 ⟨rfl, rfl⟩))
      go_ret
      exact ⟨ret_int (by rw [HV.out]; rfl), hb1⟩

/-- the stops among the first k characters -/
def stopsTo (l : Bs) (k : Nat) : List Int := ((List.range k).filter (stopAt l)).map fun i => ((atN l i : Nat) : Int)
theorem stopsTo_no (l : Bs) (k : Nat) (h : stopAt l k = false) : stopsTo l (k + 1) = stopsTo l k := by simp [stopsTo, List.range_succ, h]
theorem stopsTo_yes (l : Bs) (k : Nat) (h : stopAt l k = true) : stopsTo l (k + 1) = stopsTo l k ++ [((atN l k : Nat) : Int)] := by simp [stopsTo, List.range_succ, h]
theorem stopsTo_le (l : Bs) (k : Nat) : (stopsTo l k).length ≤ k := by
  have := List.length_filter_le (stopAt l) (List.range k)
  simpa [stopsTo] using this
theorem stopsTo_full (l : Bs) : stopsTo l (countN l) ++ [(l.length : Int)] = (stopsL l).map fun (x : Nat) => (x : Int) := by
  unfold stopsTo stopsL
  rw [List.map_append, List.map_map]
  rfl

set_option maxHeartbeats 4000000 in
theorem stops_any (s : ByteArray) (hs : s.size ≤ 3000) (w : World) (hT : Tabs w) :
    Calls Tryd.prog 29 #[.string s] w fun e w' => ∃ ao cap, e = .returned (.slice ao (stopsL (bs s)).length cap) ∧ ReadsI w' .i64 ao ((stopsL (bs s)).map fun (x : Nat) => (x : Int)) ∧ Below w.heap.size w w' := by
  obtain ⟨i0, hi, hz0, hz1, hz2⟩ := info_parts info_int5
  have HT := Lib.hid hT
  obtain ⟨l, hl⟩ : ∃ l, bs s = l := ⟨_, rfl⟩
  rw [hl]
  have HL := Lib.hid hl
  clear hT hl
  go_enter Tryd.func29, Tryd.ntmps29
  go_wp2_with fail
  go_loopw [3, 4, 5, 6] (fun v was _ _ wr => ∃ done p, Cut l done p ∧ wr.heap[w.heap.size]? = some (.stringIter s p) ∧ was = .int .i64 (wasZ l 0 done.length) ∧ wr.ownsRow (w.heap.size + 1) 3 1 v (stopsTo l done.length).length ((stopsTo l done.length).map (Value.int .i64)) ∧ w.heap.size + 1 ≤ wr.heap.size ∧ Below w.heap.size w wr) (fun _ _ _ _ wr => s.size - wr.iterPos w.heap.size)
  case atStart => exact ⟨[], 0, Cut.zero _, World.iter_heap _ _ _, rfl, World.ownsRow_nil _ _ _ _, by simp [World.iter, World.size_alloc], al (Below.refl _ _) _⟩
  case round =>
    obtain ⟨done, p, hc, hit, rfl, hown, hsz, hb⟩ := hrel
    have hlen : l.length = s.size := by rw [← HL.out, size_bs]
    have hkp := hc.len_le
    have hpl := hc.1
    have hsl := stopsTo_le l done.length
    by_cases hp : p < s.size
    · have hp' : p < l.length := by omega
      have hnx := fun ty => Lib.run_next_any_at (P := Tryd.prog) wr w.heap.size s p ty hit hp
      rw [decode_bs, HL.out] at hnx
      have hcs := hc.step hp'
      have hw := (wid_bounds (l.drop p)).1
      have hget := hc.get hp'
      have hat := hc.at'
      have hEs : (s.extract p s.size).size ≠ 0 := by rw [size_bs, bs_drop, HL.out, List.length_drop]; omega
      have hCL := fun r n h1 h2 w hT => lclass_any (s.extract p s.size) r n hEs (by rw [bs_drop, HL.out]; exact h1) (by rw [bs_drop, HL.out]; exact h2) w hT
      obtain ⟨d, hd⟩ : ∃ d, d = Lib.decodeL (l.drop p) := ⟨_, rfl⟩
      rw [← hd] at hnx hcs hw hget hCL
      obtain ⟨r, n'⟩ := d
      simp only at hnx hw hcs hCL
      have hcl : clsAt l done.length = cls (r : Int) := by unfold clsAt; rw [hget]
      have hCC := fun w hT => hCL r n' rfl rfl w hT
      obtain ⟨nw, hnw⟩ : ∃ nw, cls (r : Int) = nw := ⟨_, rfl⟩
      rw [hnw] at hcl hCC
      have HC := Lib.hid hCC
      have HCL := Lib.hid hcl
      have HAT := Lib.hid hat
      have HCS := Lib.hid hcs
      have HIP := Lib.hid (show wr.iterPos w.heap.size = p from iterPos_of hit)
      have hown2 := owns_iter hown hit (p + n')
      have hbi : Below w.heap.size wr (wr.iterAt w.heap.size s (p + n')) := Lib.below_iterAt (Below.refl _ _) (Nat.le_refl _) s (p + n')
      have HIT := Lib.hid (Lib.iterAt_heap wr w.heap.size s p (p + n') hit)
      have hbV : Below w.heap.size w (wr.iterAt w.heap.size s (p + n')) := hb.trans hbi
      have hszV : w.heap.size + 1 ≤ (wr.iterAt w.heap.size s (p + n')).heap.size := by rw [Lib.iterAt_size]; exact hsz
      obtain ⟨V, hV⟩ : ∃ V, wr.iterAt w.heap.size s (p + n') = V := ⟨_, rfl⟩
      rw [hV] at hnx HIT hbV hown2 hszV
      have HTV := Lib.hid (HT.out.below hbV (Nat.le_refl _))
      have HOWN := Lib.hid hown2
      have HWAS := Lib.hid (show ((nw : Nat) : Int) = wasZ l 0 (done ++ [(r, n')]).length by rw [List.length_append]; unfold wasZ; rw [if_neg (by simp), ← HCL.out]; simp)
      have HLEN := Lib.hid (show (done ++ [(r, n')]).length = done.length + 1 by rw [List.length_append]; rfl)
      clear hd hc hit hcs hget hat hV hbi hb hCC hCL hcl hnw hp' hown hown2 hsz hEs
      by_cases hn0 : nw = 0
      · subst hn0
        have HST := Lib.hid (stopsTo_no l done.length (show stopAt l done.length = false by unfold stopAt; rw [HCL.out]; rfl))
        go_wp2_with (first
          | (go_at_call 47; (with_reducible refine (HC.out _ HTV.out).mono ?_); rintro e w2 ⟨rfl, hb2⟩))
        have hit2 := (hb2.block _ (Array.getElem?_eq_some_iff.1 HIT.out).1).trans HIT.out
        go_roundw
        case rel => exact ⟨_, _, HCS.out, hit2, congrArg (Value.int .i64) HWAS.out, by rw [HLEN.out, HST.out]; exact owns_below HOWN.out hb2 (Nat.le_refl _), Nat.le_trans hszV hb2.size, hbV.trans (hb2.mono hbV.size)⟩
        case measure => rw [iterPos_of hit2, HIP.out]; omega
      · have hn0' : (((nw : Nat) : Int) != 0) = true := bne_iff_ne.2 (by omega)
        obtain ⟨u, hu⟩ : ∃ u, wasZ l 0 done.length = u := ⟨_, rfl⟩
        rw [hu]
        have hsu : stopAt l done.length = decide (((nw : Nat) : Int) ≠ u) := by
          unfold stopAt
          rw [HCL.out, ← hu]
          unfold wasZ
          by_cases h0 : done.length = 0
          · rw [if_pos h0, h0]
            rw [decide_eq_true (show ((nw : Nat) : Int) ≠ -1 by omega)]
            simp [hn0]
          · rw [if_neg h0, Nat.zero_add, beq_eq_false_iff_ne.2 h0, Bool.false_or, bne_iff_ne.2 hn0, Bool.true_and]
            by_cases hh : clsAt l (done.length - 1) = nw
            · rw [hh]; simp
            · rw [bne_iff_ne.2 hh, decide_eq_true (by omega)]
        by_cases hsame : ((nw : Nat) : Int) = u
        · have HST := Lib.hid (stopsTo_no l done.length (show stopAt l done.length = false by rw [hsu]; exact decide_eq_false (fun h => h hsame)))
          clear hn0 hsu hu
          subst hsame
          go_wp2_with (first
            | (go_at_call 47; (with_reducible refine (HC.out _ HTV.out).mono ?_); rintro e w2 ⟨rfl, hb2⟩))
          have hit2 := (hb2.block _ (Array.getElem?_eq_some_iff.1 HIT.out).1).trans HIT.out
          go_roundw
          case rel => exact ⟨_, _, HCS.out, hit2, congrArg (Value.int .i64) HWAS.out, by rw [HLEN.out, HST.out]; exact owns_below HOWN.out hb2 (Nat.le_refl _), Nat.le_trans hszV hb2.size, hbV.trans (hb2.mono hbV.size)⟩
          case measure => rw [iterPos_of hit2, HIP.out]; omega
        · have hs' : (((nw : Nat) : Int) != u) = true := bne_iff_ne.2 hsame
          have hst := stopsTo_yes l done.length (show stopAt l done.length = true by rw [hsu]; exact decide_eq_true hsame)
          rw [HAT.out] at hst
          have HST := Lib.hid hst
          clear hn0 hsu hu hsame hst
          go_wp2_with (first
            | (go_at_call 47; (with_reducible refine (HC.out _ HTV.out).mono ?_); rintro e w2 ⟨rfl, hb2⟩; have hown3 := owns_below HOWN.out hb2 (Nat.le_refl _); have hsz3 := Nat.le_trans hszV hb2.size)
            | (at_builtin; refine wpList_append_own _ rfl _ _ 30 rfl (w.heap.size + 1) 3 i0 (.int .i64 0) 1 8 Tryd.underlying30 hi hz0 hz1 hz2 rfl (by decide) u3 _ _ rfl (hown3.alloc _) ⟨w2.heap.size, 0, none⟩ 1 1 [.int .i64 (p : Nat)] rfl (by simp) (cells_new _ _ _) (by simp [Value.oneCell']) (by unfold maxLen; omega) (by omega) (by rw [World.size_alloc]; omega) ?_; intro v4 w4 hown4 hgrow4 _; have hb4 : Below w.heap.size w w4 := (al (hbV.trans (hb2.mono hbV.size)) _).grown hgrow4 (by rw [World.size_alloc]; omega) (fun q e => Nat.le_of_succ_le (hown3.lt q e).1); have hit4 := iter_grown hown3 _ hgrow4 ((hb2.block _ (Array.getElem?_eq_some_iff.1 HIT.out).1).trans HIT.out); have hsz4 := hgrow4.size; clear hgrow4))
          rw [World.size_alloc] at hsz4
          exact ⟨⟨_, _, HCS.out, hit4, congrArg (Value.int .i64) HWAS.out, by rw [HLEN.out, HST.out, List.length_append, List.length_singleton, List.map_append]; exact hown4, by omega, hb4⟩, by rw [iterPos_of hit4, HIP.out]; omega⟩
    · have hnx := fun ty => Lib.run_next_end_at (P := Tryd.prog) wr w.heap.size s p ty hit hp
      have hE := (hc.end' (by omega)).1
      have hk : done.length = countN l := by rw [hE]; rfl
      rw [hk] at hown hsl
      have HF := Lib.hid (stopsTo_full l)
      have hcn := countN_le l
      clear hE hk hc hit
      have HOWN := Lib.hid hown
      clear hown
      go_wp2_with (at_builtin; refine wpList_append_own _ rfl _ _ 30 rfl (w.heap.size + 1) 3 i0 (.int .i64 0) 1 8 Tryd.underlying30 hi hz0 hz1 hz2 rfl (by decide) u3 _ _ rfl (HOWN.out.alloc _) ⟨wr.heap.size, 0, none⟩ 1 1 [.int .i64 (s.size : Nat)] rfl (by simp) (cells_new _ _ _) (by simp [Value.oneCell']) (by unfold maxLen; omega) (by omega) (by rw [World.size_alloc]; omega) ?_; intro v4 w4 hown4 hgrow4 _; have hb4 : Below w.heap.size w w4 := (al hb _).grown hgrow4 (by rw [World.size_alloc]; omega) (fun q e => Nat.le_of_succ_le (HOWN.out.lt q e).1); clear hgrow4)
      have hown5 : w4.ownsRow (w.heap.size + 1) 3 1 v4 ((stopsTo l (countN l)).length + 1) (((stopsL l).map fun (x : Nat) => (x : Int)).map (Value.int .i64)) := by
        rw [← HF.out, List.map_append, hlen]
        exact hown4
      obtain ⟨ao, ca, rfl, -, R⟩ := ReadsI.owned hown5
      have hlL : ((stopsL l).map fun (x : Nat) => (x : Int)).length = (stopsL l).length := List.length_map _
      rw [hlL]
      go_ret
      exact ⟨ao, ca, rfl, R, hb4⟩
end Go.Proofs.YtkknmbkfiiidmaaDoor
