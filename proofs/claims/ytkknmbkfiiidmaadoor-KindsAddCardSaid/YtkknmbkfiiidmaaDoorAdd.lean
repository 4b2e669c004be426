/-
  The walk of KindsAdd: columns go on over a seam.
-/
import Derived.Test.YtkknmbkfiiidmaaDoorAddLaw
import Derived.Test.YtkknmbkfiiidmaaDoorCols
import Derived.Test.YtkknmbkfiiidmaaDoorKAwake
import Derived.Test.YtkknmbkfiiidmaaDoorPendFn
import Derived.Test.YtkknmbkfiiidmaaDoorCloses
import Derived.Deep.RegionHeldLaw
import Derived.BigQuiet
namespace Go.Proofs.YtkknmbkfiiidmaaDoor
open Go.RowKit

set_option maxRecDepth 100000 in
set_option maxHeartbeats 8000000 in
theorem kindsAdd_any (a b : ByteArray) (ha : a.size ≤ 140737488351232) (hb : b.size ≤ 140737488351232) (f t : Int) (w : World) (hT : Tabs w) :
    Calls Tryd.prog 10 #[.agg #[.string a, .string b, .int .i64 f, .int .i64 t]] w fun e w' => e = .returned (.bool true) ∧ Below w.heap.size w w' := by
  have HT := Lib.hid hT
  have HAW := Lib.hid (fun w hT => kawake_any w hT)
  obtain ⟨n, hn⟩ : ∃ n, pendN (bs a) = n := ⟨_, rfl⟩
  have HP := Lib.hid (fun w hT => pending_at a ha n hn w hT)
  clear hT
  go_enter Tryd.func10, Tryd.ntmps10
  go_wp2_with (first
    | (go_at_call 22; (with_reducible refine (HAW.out _ (HT.out.below (al (Below.refl _ _) _) (Nat.le_refl _))).mono ?_); rintro e w1 ⟨rfl, hb1⟩))
  have hbA : Below w.heap.size w (w.alloc (.cells #[.string a, .string b, .int .i64 f, .int .i64 t] 34)) := al (Below.refl _ _) _
  have hcell : ∀ i v, #[Value.string a, .string b, .int .i64 f, .int .i64 t][i]? = some v → w1.cell? ⟨w.heap.size, i, none⟩ = some v := fun i v h => cellKeep (World.cell?_alloc_at (w := w) _ _ w.heap.size i rfl |>.trans h) hb1
  have d0 := hcell 0 _ rfl
  have d1 := hcell 1 _ rfl
  have d2 := hcell 2 _ rfl
  have d3 := hcell 3 _ rfl
  have hbw : Below w.heap.size w w1 := nx hbA hb1
  clear hcell hbA
  have hS : w1.cell? ⟨w.heap.size, 0, none⟩ = some (.string a) ∧ w1.cell? ⟨w.heap.size, 1, none⟩ = some (.string b) ∧ w1.cell? ⟨w.heap.size, 2, none⟩ = some (.int .i64 f) ∧ w1.cell? ⟨w.heap.size, 3, none⟩ = some (.int .i64 t) := ⟨d0, d1, d2, d3⟩
  go_region_held_law (fun w' => w'.cell? ⟨w.heap.size, 0, none⟩ = some (.string a) ∧ w'.cell? ⟨w.heap.size, 1, none⟩ = some (.string b) ∧ w'.cell? ⟨w.heap.size, 2, none⟩ = some (.int .i64 f) ∧ w'.cell? ⟨w.heap.size, 3, none⟩ = some (.int .i64 t)) (first | (with_reducible assumption) | exact hS) (fail)
  have hbY : Below w.heap.size w w1.drew := hbw.drew
  obtain ⟨Y, hY⟩ : ∃ Y, w1.drew = Y := ⟨_, rfl⟩
  rw [hY] at hbY ⊢
  clear hY hS d0 d1 d2 d3 hbw hb1
  obtain ⟨hn3, hnl⟩ := pend_le (bs a)
  rw [hn, ← size_bs] at hnl
  rw [hn] at hn3
  obtain ⟨q, hq⟩ : ∃ q, a.size - n = q := ⟨_, rfl⟩
  have hqi : (a.size : Int) - (n : Int) = (q : Int) := by omega
  have hqs : q ≤ a.size := by omega
  obtain ⟨P, hP⟩ : ∃ P, a.extract q a.size = P := ⟨_, rfl⟩
  have hbP : bs P = pendP (bs a) := by rw [← hP, bs_drop, ← hq, ← hn, size_bs]; rfl
  have hPs : P.size ≤ 140737488351232 := by rw [size_bs, hbP, pendP_len, hn]; omega
  have HC := Lib.hid (fun w hT => closes_any P b hPs hb w hT)
  rw [hbP] at HC
  obtain ⟨c, hc⟩ : ∃ c, closK (bs a) (bs b) = c := ⟨_, rfl⟩
  rw [show closN (pendP (bs a)) (bs b) = c from hc] at HC
  clear hq hbP
  by_cases hc0 : c = 0
  · subst hc0
    have hsm := fun g => cols_seam (a := bs a) (b := bs b) hc g t
    obtain ⟨F, hF⟩ : ∃ F, Int.tmod f 100000 = F := ⟨_, rfl⟩
    have hFb : F < 100000 := by rw [← hF]; have := Int.tmod_lt_of_pos f (show (0:Int) < 100000 by omega); omega
    have hsm := hsm F
    obtain ⟨G, hG⟩ : ∃ G, (max F 0).toNat = G := ⟨_, rfl⟩
    have e2 : max F 0 = (G : Int) := by omega
    rw [e2] at hsm
    have HCA := Lib.hid (fun w => columns_any a ha F t w)
    have hpb : colsV (bs a) F t ≤ 16 * a.size := by
      have h1 := colTo_le (bs a) (tabN t) (fromN F t) (countN (bs a)) (tabN_bounds t).2
      have h2 := bs_len_le a
      unfold colsV
      omega
    obtain ⟨p, hp⟩ : ∃ p, colsV (bs a) F t = p := ⟨_, rfl⟩
    rw [hp] at HCA hsm hpb
    obtain ⟨x, hx⟩ : ∃ x, G + p = x := ⟨_, rfl⟩
    have hxi : (G : Int) + (p : Int) = (x : Int) := by omega
    rw [hxi] at hsm
    have HCB := Lib.hid (fun w => columns_any b hb (x : Nat) t w)
    have hrb : colsV (bs b) (x : Nat) t ≤ 16 * b.size := by
      have h1 := colTo_le (bs b) (tabN t) (fromN (x : Nat) t) (countN (bs b)) (tabN_bounds t).2
      have h2 := bs_len_le b
      unfold colsV
      omega
    obtain ⟨r, hr⟩ : ∃ p, colsV (bs b) (x : Nat) t = p := ⟨_, rfl⟩
    rw [hr] at HCB hsm hrb
    have HCS := Lib.hid (fun w => columns_far (a ++ b) (by rw [ByteArray.size_append]; omega) F t w)
    rw [bs_append, hsm] at HCS
    obtain ⟨pr, hpr⟩ : ∃ x, p + r = x := ⟨_, rfl⟩
    have hpri : (p : Int) + (r : Int) = (pr : Int) := by omega
    rw [hpr] at HCS
    have HCT := Lib.hid (fun w => columns_any ⟨#[9]⟩ (by decide) (x : Nat) t w)
    have htab := cols_tab x t
    have hzb : colsV [9] (x : Nat) t ≤ 16 := by
      have h1 := colTo_le [9] (tabN t) (fromN (x : Nat) t) (countN [9]) (tabN_bounds t).2
      have h2 : countN [9] = 1 := by decide +kernel
      unfold colsV
      omega
    rw [show bs ⟨#[9]⟩ = [9] from rfl] at HCT
    obtain ⟨z, hz⟩ : ∃ y, colsV [9] (x : Nat) t = y := ⟨_, rfl⟩
    rw [hz] at HCT htab hzb
    have hTb := tabN_bounds t
    have e1 : min (max t 1) 16 = (tabN t : Nat) := by unfold tabN; omega
    obtain ⟨T, hTT⟩ : ∃ T, tabN t = T := ⟨_, rfl⟩
    rw [hTT] at htab e1 hTb
    obtain ⟨xz, hxz⟩ : ∃ y, x + z = y := ⟨_, rfl⟩
    have hxzi : (x : Int) + (z : Int) = (xz : Int) := by omega
    rw [hxz] at htab
    have hmod : (xz : Int) % (T : Int) = 0 := by rw [← Int.natCast_emod, htab]; rfl
    have HPV := Lib.hid hp
    have hT0 : (T : Int) ≠ 0 := by omega
    have hp51 : p ≤ 2251799813619712 := by omega
    have hr51 : r ≤ 2251799813619712 := by omega
    have hG17 : G < 100000 := by omega
    clear hsm hG hp hx hr hpr hz hTT hxz htab hpb hrb
    go_wp2_with (first
      | (go_at_call 33; (with_reducible refine (HP.out _ (HT.out.below hbY (Nat.le_refl _))).mono ?_); rintro e w2 ⟨rfl, hb2⟩; have hb2w := nx hbY hb2)
      | (go_at_call 34; (with_reducible refine (HC.out _ (HT.out.below hb2w (Nat.le_refl _))).mono ?_); rintro e w3 ⟨rfl, hb3⟩; have hb3w := nx hb2w hb3)
      | (go_at_call 27; (with_reducible refine (HCA.out _).mono ?_); rintro e w4 ⟨rfl, hb4⟩; have hb4w := nx hb3w hb4)
      | (go_at_call 27; (with_reducible refine (HCB.out _).mono ?_); rintro e w5 ⟨rfl, hb5⟩; have hb5w := nx hb4w hb5)
      | (go_at_call 27; (with_reducible refine (HCS.out _).mono ?_); rintro e w6 ⟨rfl, hb6⟩; have hb6w := nx hb5w hb6)
      | (go_at_call 27; (with_reducible refine (HCT.out _).mono ?_); rintro e w7 ⟨rfl, hb7⟩; have hb7w := nx hb6w hb7))
    clear HCA HCB HCS HCT HC HP hmod e1 e2 hxzi hpri hxi
    obtain ⟨l, hl⟩ : ∃ l, bs a = l := ⟨_, rfl⟩
    have HL := Lib.hid hl
    rw [hl] at HPV
    clear hl
    go_loopw [11, 12] (fun u v wr => ∃ done q', Cut l done q' ∧ wr.heap[w7.heap.size]? = some (.stringIter a q') ∧ u = .bool (plainTo l done.length) ∧ v = .int .i64 (widTo l done.length : Nat) ∧ Below w7.heap.size w7 wr) (fun _ _ wr => a.size - wr.iterPos w7.heap.size)
    case atStart => exact ⟨[], 0, Cut.zero _, World.iter_heap _ _ _, rfl, rfl, al (Below.refl _ _) _⟩
    case round =>
      obtain ⟨done, q', hcut, hit, rfl, rfl, hbr⟩ := hrel
      have hlen : l.length = a.size := by rw [← HL.out, size_bs]
      have hkp := hcut.len_le
      have hpl := hcut.1
      have hwb := widTo_le l done.length
      by_cases hq' : q' < a.size
      · have hp' : q' < l.length := by omega
        have hnx := fun ty => Lib.run_next_any_at (P := Tryd.prog) wr w7.heap.size a q' ty hit hq'
        rw [decode_bs, HL.out] at hnx
        have hcs := hcut.step hp'
        have hw := (wid_bounds (l.drop q')).1
        have hget := hcut.get hp'
        obtain ⟨d, hd⟩ : ∃ d, d = Lib.decodeL (l.drop q') := ⟨_, rfl⟩
        rw [← hd] at hnx hcs hw hget
        obtain ⟨rr, n'⟩ := d
        simp only at hnx hw hcs
        have hst : widTo l (done.length + 1) = widTo l done.length + widthN (rr : Int) := by rw [widTo, hget]
        have hsp : plainTo l (done.length + 1) = (plainTo l done.length && !(rr == 9)) := by rw [plainTo, hget]
        obtain ⟨N, hN⟩ : ∃ N, widTo l done.length = N := ⟨_, rfl⟩
        obtain ⟨pb, hpb⟩ : ∃ N, plainTo l done.length = N := ⟨_, rfl⟩
        rw [hN] at hst hwb ⊢
        rw [hpb] at hsp ⊢
        have HWD := Lib.hid (fun w => width_any (rr : Int) w)
        have hv2 := width_le (rr : Int)
        obtain ⟨v, hv⟩ : ∃ v, widthN (rr : Int) = v := ⟨_, rfl⟩
        rw [hv] at HWD hv2 hst
        have HCS := Lib.hid hcs
        have HST := Lib.hid hst
        have HSP := Lib.hid hsp
        have hbi : Below w7.heap.size wr (wr.iterAt w7.heap.size a (q' + n')) := Lib.below_iterAt (Below.refl _ _) (Nat.le_refl _) a (q' + n')
        have HIT := Lib.hid (Lib.iterAt_heap wr w7.heap.size a q' (q' + n') hit)
        have HIP := Lib.hid (show wr.iterPos w7.heap.size = q' from iterPos_of hit)
        have hbV : Below w7.heap.size w7 (wr.iterAt w7.heap.size a (q' + n')) := hbr.trans hbi
        obtain ⟨V, hV⟩ : ∃ V, wr.iterAt w7.heap.size a (q' + n') = V := ⟨_, rfl⟩
        rw [hV] at hnx HIT hbV
        have hNb : N ≤ 9007199254740992 := by omega
        clear hd hcut hit hcs hget hV hbi hbr hN hp' hst hsp hpb hv
        by_cases h9 : rr = 9
        · subst h9
          have HW9 := Lib.hid (show ∀ w, Calls Tryd.prog 18 #[.int .i32 9] w fun e w' => e = .returned (.int .i64 (v : Nat)) ∧ w = w' from HWD.out)
          cases pb
          · go_wp2_with (first | (go_at_call 18; (with_reducible refine (HW9.out _).mono ?_); rintro e w8 ⟨rfl, rfl⟩))
            exact ⟨⟨_, _, HCS.out, HIT.out, by rw [List.length_append, List.length_singleton, HSP.out]; rfl, by rw [List.length_append, List.length_singleton, HST.out]; go_num, hbV⟩, by rw [iterPos_of HIT.out, HIP.out]; omega⟩
          · go_wp2_with (first | (go_at_call 18; (with_reducible refine (HW9.out _).mono ?_); rintro e w8 ⟨rfl, rfl⟩))
            exact ⟨⟨_, _, HCS.out, HIT.out, by rw [List.length_append, List.length_singleton, HSP.out]; rfl, by rw [List.length_append, List.length_singleton, HST.out]; go_num, hbV⟩, by rw [iterPos_of HIT.out, HIP.out]; omega⟩
        · have h9i : (((rr : Nat) : Int) != 9) = true := bne_iff_ne.2 (by omega)
          have h9n : (rr == 9) = false := beq_eq_false_iff_ne.2 h9
          cases pb
          · go_wp2_with (first | (go_at_call 18; (with_reducible refine (HWD.out _).mono ?_); rintro e w8 ⟨rfl, rfl⟩))
            exact ⟨⟨_, _, HCS.out, HIT.out, by rw [List.length_append, List.length_singleton, HSP.out]; rfl, by rw [List.length_append, List.length_singleton, HST.out]; go_num, hbV⟩, by rw [iterPos_of HIT.out, HIP.out]; omega⟩
          · go_wp2_with (first | (go_at_call 18; (with_reducible refine (HWD.out _).mono ?_); rintro e w8 ⟨rfl, rfl⟩))
            exact ⟨⟨_, _, HCS.out, HIT.out, by rw [List.length_append, List.length_singleton, HSP.out, h9n]; rfl, by rw [List.length_append, List.length_singleton, HST.out]; go_num, hbV⟩, by rw [iterPos_of HIT.out, HIP.out]; omega⟩
      · have hnx := fun ty => Lib.run_next_end_at (P := Tryd.prog) wr w7.heap.size a q' ty hit hq'
        have hE := (hcut.end' (by omega)).1
        rw [hE]
        first | rw [show (tk l).length = countN l from rfl] | skip
        have hfin := fun h => plain_cols l (tabN t) (fromN F t) (countN l) h
        have hp0 : colTo l (tabN t) (fromN F t) (countN l) = p := HPV.out
        rw [hp0] at hfin
        obtain ⟨N, hN⟩ : ∃ N, widTo l (countN l) = N := ⟨_, rfl⟩
        obtain ⟨pb, hpb⟩ : ∃ N, plainTo l (countN l) = N := ⟨_, rfl⟩
        rw [hN] at hfin ⊢
        rw [hpb] at hfin ⊢
        clear hE hcut hit hN hpb hp0
        cases pb
        · go_wp2_with fail
          go_ret
          exact ⟨rfl, nx hb7w hbr⟩
        · obtain rfl := hfin rfl
          go_wp2_with fail
          go_ret
          exact ⟨rfl, nx hb7w hbr⟩
  · have hcn : ((c : Int) != 0) = true := bne_iff_ne.2 (by omega)
    have hni : (n : Int) ≤ 3 := by omega
    go_wp2_with (first
      | (go_at_call 33; (with_reducible refine (HP.out _ (HT.out.below hbY (Nat.le_refl _))).mono ?_); rintro e w2 ⟨rfl, hb2⟩; have hb2w := nx hbY hb2)
      | (go_at_call 34; (with_reducible refine (HC.out _ (HT.out.below hb2w (Nat.le_refl _))).mono ?_); rintro e w3 ⟨rfl, hb3⟩; have hb3w := nx hb2w hb3))
    go_ret
    exact ⟨rfl, hb3w⟩
end Go.Proofs.YtkknmbkfiiidmaaDoor
