/-
  Columns: the contract of the program's function.
-/
import Derived.Test.YtkknmbkfiiidmaaDoorNext
namespace Go.Proofs.YtkknmbkfiiidmaaDoor
open Go.RowKit

set_option maxHeartbeats 4000000 in
theorem columns_far (s : ByteArray) (hs : s.size ≤ 562949953421312) (f t : Int) (w : World) :
    Calls Tryd.prog 27 #[.string s, .int .i64 f, .int .i64 t] w fun e w' => e = .returned (.int .i64 (colsV (bs s) f t : Nat)) ∧ Below w.heap.size w w' := by
  obtain ⟨T, hT⟩ : ∃ T, tabN t = T := ⟨_, rfl⟩
  obtain ⟨F, hF⟩ : ∃ F, fromN f t = F := ⟨_, rfl⟩
  have hTb := tabN_bounds t
  have e1 : min (max t 1) 16 = (T : Int) := by rw [← hT]; unfold tabN; omega
  rw [hT] at hTb
  obtain ⟨G, hG⟩ : ∃ G, (max f 0).toNat = G := ⟨_, rfl⟩
  have e2 : max f 0 = (G : Int) := by omega
  have hGF : G % T = F := by rw [← hG, ← hT, ← hF]; rfl
  have HGF := Lib.hid hGF
  have hFT : F < T := by rw [← hGF]; exact Nat.mod_lt _ (by omega)
  unfold colsV
  rw [hT, hF]
  obtain ⟨l, hl⟩ : ∃ l, bs s = l := ⟨_, rfl⟩
  rw [hl]
  have HL := Lib.hid hl
  clear hT hF hG hGF hl
  have hT1 : (1 : Int) ≤ (T : Int) := by omega
  have hT16 : (T : Int) ≤ 16 := by omega
  have hT0 : (T : Int) ≠ 0 := by omega
  go_enter Tryd.func27, Tryd.ntmps27
  have e3 : (G : Int) % (T : Int) = (F : Int) := by rw [← HGF.out]; exact (Int.natCast_emod G T).symm
  go_wp2_with fail
  rw [e3]
  have HE := Lib.hid (And.intro e1 (And.intro e2 e3))
  clear e1 e2 e3
  go_loopw [7, 9] (fun n _ wr => ∃ done p, Cut l done p ∧ wr.heap[w.heap.size]? = some (.stringIter s p) ∧ n = .int .i64 (colTo l T F done.length : Nat) ∧ Below w.heap.size w wr) (fun _ _ wr => s.size - wr.iterPos w.heap.size)
  case atStart => exact ⟨[], 0, Cut.zero _, World.iter_heap _ _ _, rfl, al (Below.refl _ _) _⟩
  case round =>
    obtain ⟨done, p, hc, hit, rfl, hb⟩ := hrel
    have hlen : l.length = s.size := by rw [← HL.out, size_bs]
    have hkp := hc.len_le
    have hpl := hc.1
    have hcb := colTo_le l T F done.length hTb.2
    by_cases hp : p < s.size
    · have hp' : p < l.length := by omega
      have hnx := fun ty => Lib.run_next_any_at (P := Tryd.prog) wr w.heap.size s p ty hit hp
      rw [decode_bs, HL.out] at hnx
      have hcs := hc.step hp'
      have hw := (wid_bounds (l.drop p)).1
      have hget := hc.get hp'
      obtain ⟨d, hd⟩ : ∃ d, d = Lib.decodeL (l.drop p) := ⟨_, rfl⟩
      rw [← hd] at hnx hcs hw hget
      obtain ⟨r, n'⟩ := d
      simp only at hnx hw hcs
      have hst : colTo l T F (done.length + 1) = colStep T F (colTo l T F done.length) (r : Int) := by rw [colTo, hget]
      obtain ⟨N, hN⟩ : ∃ N, colTo l T F done.length = N := ⟨_, rfl⟩
      rw [hN] at hst hcb ⊢
      have HWD := Lib.hid (fun w => width_any (r : Int) w)
      obtain ⟨v, hv⟩ : ∃ v, widthN (r : Int) = v := ⟨_, rfl⟩
      have hv2 := width_le (r : Int)
      rw [hv] at HWD hv2
      have HCS := Lib.hid hcs
      have hbi : Below w.heap.size wr (wr.iterAt w.heap.size s (p + n')) := Lib.below_iterAt (Below.refl _ _) (Nat.le_refl _) s (p + n')
      have HIT := Lib.hid (Lib.iterAt_heap wr w.heap.size s p (p + n') hit)
      have HIP := Lib.hid (show wr.iterPos w.heap.size = p from iterPos_of hit)
      have hbV : Below w.heap.size w (wr.iterAt w.heap.size s (p + n')) := hb.trans hbi
      obtain ⟨V, hV⟩ : ∃ V, wr.iterAt w.heap.size s (p + n') = V := ⟨_, rfl⟩
      rw [hV] at hnx HIT hbV
      have hNb : N ≤ 9007199254740992 := by omega
      clear hd hc hit hcs hget hV hbi hb hN hp'
      by_cases h9 : r = 9
      · subst h9
        have hst2 : colTo l T F (done.length + 1) = N + (T - (F + N) % T) := by rw [hst]; unfold colStep; rw [if_pos (show ((9 : Nat) : Int) = 9 from rfl)]
        have hmod : (F + N) % T < T := Nat.mod_lt _ (by omega)
        obtain ⟨Y, hY⟩ : ∃ Y, (F + N) % T = Y := ⟨_, rfl⟩
        have hm : ((F : Int) + (N : Int)) % (T : Int) = (Y : Int) := by rw [← hY]; exact (Int.natCast_emod (F + N) T).symm
        have hm2 : ((F : Int) + (N : Int)).tmod (T : Int) = (Y : Int) := by rw [Int.tmod_eq_emod_of_nonneg (by omega)]; exact hm
        rw [hY] at hst2 hmod
        have HST := Lib.hid (show ((N : Int) + ((T : Int) - (Y : Int))) = ((colTo l T F (done ++ [(9, n')]).length : Nat) : Int) by rw [List.length_append, List.length_singleton, hst2]; omega)
        clear hst hst2 hY hv
        go_wp2_with fail
        go_roundw
        case rel => exact ⟨_, _, HCS.out, HIT.out, congrArg (Value.int .i64) HST.out, hbV⟩
        case measure => rw [iterPos_of HIT.out, HIP.out]; omega
      · have hd' : ((r : Int) == 9) = false := beq_eq_false_iff_ne.2 (by omega)
        have hst2 : colTo l T F (done.length + 1) = N + v := by rw [hst]; unfold colStep; rw [if_neg (by omega), hv]
        have HST := Lib.hid (show ((N : Int) + (v : Int)) = ((colTo l T F (done ++ [(r, n')]).length : Nat) : Int) by rw [List.length_append, List.length_singleton, hst2]; omega)
        clear hst hst2 hv h9
        go_wp2_with (first | (go_at_call 18; (with_reducible refine (HWD.out _).mono ?_); rintro e w2 ⟨rfl, rfl⟩))
        go_roundw
        case rel => exact ⟨_, _, HCS.out, HIT.out, congrArg (Value.int .i64) HST.out, hbV⟩
        case measure => rw [iterPos_of HIT.out, HIP.out]; omega
    · have hnx := fun ty => Lib.run_next_end_at (P := Tryd.prog) wr w.heap.size s p ty hit hp
      have hE := (hc.end' (by omega)).1
      have HK := Lib.hid (show done.length = countN l by rw [hE]; rfl)
      clear hE hc hit
      go_wp2_with fail
      go_ret
      exact ⟨ret_int (by rw [HK.out]), hb⟩
theorem columns_any (s : ByteArray) (hs : s.size ≤ 140737488351232) (f t : Int) (w : World) :
    Calls Tryd.prog 27 #[.string s, .int .i64 f, .int .i64 t] w fun e w' => e = .returned (.int .i64 (colsV (bs s) f t : Nat)) ∧ Below w.heap.size w w' := columns_far s (by omega) f t w
end Go.Proofs.YtkknmbkfiiidmaaDoor
