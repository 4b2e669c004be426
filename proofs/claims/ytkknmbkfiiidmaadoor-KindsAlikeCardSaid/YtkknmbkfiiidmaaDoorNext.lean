/-
  From word to word: contracts of the program's into, Next, Columns.
-/
import Derived.Test.YtkknmbkfiiidmaaDoorKinds
import Derived.Test.YtkknmbkfiiidmaaDoorColLaw
namespace Go.Proofs.YtkknmbkfiiidmaaDoor
open Go.RowKit

set_option maxHeartbeats 2000000 in
theorem into_any (s : ByteArray) (hs : s.size ≤ 140737488351232) (c : Int) (w : World) (hT : Tabs w) :
    Calls Tryd.prog 41 #[.string s, .int .i64 c] w fun e w' => e = .returned (.int .i64 (atN (bs s) (intoM (bs s) c) : Nat)) ∧ Below w.heap.size w w' := by
  have HT := Lib.hid hT
  obtain ⟨-, hMq, hq, hM1, hM2⟩ := into_find (bs s) c
  have hcl : (clampN (bs s) c : Int) = min (max c 0) (s.size : Int) := by unfold clampN; rw [size_bs]; omega
  obtain ⟨M, hM⟩ : ∃ M, atN (bs s) (intoM (bs s) c) = M := ⟨_, rfl⟩
  obtain ⟨q, hqq⟩ : ∃ q, clampN (bs s) c = q := ⟨_, rfl⟩
  rw [← size_bs] at hq
  rw [hM, hqq] at hMq
  rw [hM] at hM1 hM2 ⊢
  rw [hqq] at hq hM2 hcl
  have HM := Lib.hid (And.intro hM1 hM2)
  clear hT hM hqq hM1 hM2
  go_enter Tryd.func41, Tryd.ntmps41
  have HV := Lib.hid hcl.symm
  clear hcl
  go_wp2_with fail
  go_loopw [1] (fun v wr => ∃ q' : Nat, v = .int .i64 (q' : Nat) ∧ M ≤ q' ∧ q' ≤ q ∧ Below w.heap.size w wr) (fun v _ => (intOf v).toNat)
  case atStart => exact ⟨q, congrArg (Value.int .i64) HV.out, hMq, Nat.le_refl _, Below.refl _ _⟩
  case round =>
    obtain ⟨q', rfl, h1, h2, hb⟩ := hrel
    by_cases he : q' = M
    · subst he
      have HB := Lib.hid (c_begins s hs (q' : Nat) true (begB_t (by rw [← size_bs]; omega) HM.out.1))
      go_wp2_with (first | (go_at_call 30; (with_reducible refine (HB.out _ (HT.out.below hb (Nat.le_refl _))).mono ?_); rintro e w2 ⟨rfl, hb2⟩))
      go_ret
      exact ⟨rfl, hb.trans (hb2.mono hb.size)⟩
    · have HB := Lib.hid (c_begins s hs (q' : Nat) false (begB_f (by rw [← size_bs]; omega) (HM.out.2 q' (by omega) h2)))
      have hq1 : 1 ≤ q' := by omega
      have HK := Lib.hid (show ((q' : Int) - 1) = ((q' - 1 : Nat) : Int) by omega)
      have hqb : q' ≤ 140737488351232 := by omega
      go_wp2_with (first | (go_at_call 30; (with_reducible refine (HB.out _ (HT.out.below hb (Nat.le_refl _))).mono ?_); rintro e w2 ⟨rfl, hb2⟩))
      exact ⟨⟨q' - 1, congrArg (Value.int .i64) HK.out, by omega, by omega, hb.trans (hb2.mono hb.size)⟩, by simp [intOf]; omega⟩

theorem class_cls (r : Int) (w : World) : Calls Tryd.prog 42 #[.int .i32 r] w fun e w' => e = .returned (.int .i64 (cls r : Nat)) ∧ w = w' := class_any r w

theorem drop_tk (l : Bs) (m : Nat) (hm : m ≤ countN l) : tk (l.drop (atN l m)) = (tk l).drop m := by
  have h := (cut_at l m hm).2.1
  have h2 := congrArg (List.drop m) h
  rw [List.drop_append_of_le_length (by rw [List.length_take]; unfold countN at hm; omega), List.drop_take_self, List.nil_append] at h2
  exact h2.symm
theorem drop_at (l : Bs) (m k : Nat) (hm : m ≤ countN l) : atN l m + atN (l.drop (atN l m)) k = atN l (m + k) := by
  unfold atN
  rw [show wsum ((tk l).take m) = atN l m from rfl, drop_tk l m hm, List.take_add, wsum_append]
  rfl
theorem drop_count (l : Bs) (m : Nat) (hm : m ≤ countN l) : countN (l.drop (atN l m)) = countN l - m := by
  unfold countN
  rw [drop_tk l m hm, List.length_drop]
/-- the class that came last -/
def wasZ (l : Bs) (m k : Nat) : Int := if k = 0 then -1 else (clsAt l (m + k - 1) : Nat)
theorem stop_of {l : Bs} {i : Nat} (hi : 0 < i) : stopAt l i = (clsAt l i != 0 && clsAt l (i - 1) != clsAt l i) := by
  unfold stopAt
  have : (i == 0) = false := beq_eq_false_iff_ne.2 (by omega)
  rw [this, Bool.false_or]

set_option maxHeartbeats 4000000 in
theorem next_any (s : ByteArray) (hs : s.size ≤ 140737488351232) (c : Int) (w : World) (hT : Tabs w) :
    Calls Tryd.prog 23 #[.string s, .int .i64 c] w fun e w' => e = .returned (.int .i64 (nextV (bs s) (intoM (bs s) c) : Nat)) ∧ Below w.heap.size w w' := by
  have HI := Lib.hid (into_any s hs c w hT)
  obtain ⟨hm, -, -, -, -⟩ := into_find (bs s) c
  obtain ⟨m, hmm⟩ : ∃ m, intoM (bs s) c = m := ⟨_, rfl⟩
  rw [hmm] at HI hm ⊢
  obtain ⟨A, hA⟩ : ∃ A, atN (bs s) m = A := ⟨_, rfl⟩
  have hAl : A ≤ s.size := by rw [← hA, size_bs]; exact (cut_at (bs s) m hm).1
  have hdk := drop_tk (bs s) m hm
  have hda := fun k => drop_at (bs s) m k hm
  have hdc := drop_count (bs s) m hm
  rw [hA] at HI hdk hda hdc
  obtain ⟨l, hl⟩ : ∃ l, bs s = l := ⟨_, rfl⟩
  have hls : l.length = s.size := by rw [← hl, size_bs]
  rw [hl] at hm hdk hda hdc ⊢
  have hS : bs (s.extract A s.size) = l.drop A := by rw [bs_drop, hl]
  obtain ⟨S, hSS⟩ : ∃ S, s.extract A s.size = S := ⟨_, rfl⟩
  rw [hSS] at hS
  have hSz : S.size + A = s.size := by rw [size_bs, hS, List.length_drop, hls]; omega
  have HDK := Lib.hid hdk
  have HDA := Lib.hid hda
  have HDC := Lib.hid hdc
  have HS := Lib.hid hS
  have HSS := Lib.hid hSS
  have HLS := Lib.hid hls
  clear hT hmm hA hdk hda hdc hl hS hls
  go_enter Tryd.func23, Tryd.ntmps23
  go_wp2_with (first | (go_at_call 41; (with_reducible refine HI.out.mono ?_); rintro e w1 ⟨rfl, hb1⟩))
  clear hSS
  go_loopw [5, 6, 7, 8] (fun was _ _ _ wr => ∃ done p, Cut (l.drop A) done p ∧ wr.heap[w1.heap.size]? = some (.stringIter S p) ∧ was = .int .i64 (wasZ l m done.length) ∧ Hid (∀ i, m < i → i < m + done.length → stopAt l i = false) ∧ Below w.heap.size w wr) (fun _ _ _ _ wr => S.size - wr.iterPos w1.heap.size)
  case atStart => exact ⟨[], 0, Cut.zero _, World.iter_heap _ _ _, rfl, Lib.hid (fun i h1 h2 => by simp at h2; omega), al hb1 _⟩
  case round =>
    obtain ⟨done, p, hc, hit, rfl, hst, hb⟩ := hrel
    have hlen : (l.drop A).length = S.size := by rw [← HS.out, size_bs]
    by_cases hp : p < S.size
    · have hp' : p < (l.drop A).length := by omega
      have hnx := fun ty => Lib.run_next_any_at (P := Tryd.prog) wr w1.heap.size S p ty hit hp
      rw [decode_bs, HS.out] at hnx
      have hcs := hc.step hp'
      have hw := (wid_bounds ((l.drop A).drop p)).1
      have hget := hc.get hp'
      have hat := hc.at'
      have hlt := hc.lt_count hp'
      rw [HDC.out] at hlt
      rw [HDK.out, List.getElem?_drop] at hget
      obtain ⟨d, hd⟩ : ∃ d, d = Lib.decodeL ((l.drop A).drop p) := ⟨_, rfl⟩
      rw [← hd] at hnx hcs hw hget
      obtain ⟨r, n'⟩ := d
      simp only at hnx hw hcs
      have hcl : clsAt l (m + done.length) = cls (r : Int) := by unfold clsAt; rw [hget]
      have hCC := fun w => class_cls (r : Int) w
      obtain ⟨nw, hnw⟩ : ∃ nw, cls (r : Int) = nw := ⟨_, rfl⟩
      rw [hnw] at hcl hCC
      have HC := Lib.hid hCC
      have HCL := Lib.hid hcl
      have HAT := Lib.hid (show A + p = atN l (m + done.length) by have := HDA.out done.length; rw [hat] at this; exact this)
      have hkp := hc.len_le
      have hp0 : done.length = 0 → p = 0 := fun h => by rw [← hat, h, atN_zero]
      have HCS := Lib.hid hcs
      have hbi : Below w1.heap.size wr (wr.iterAt w1.heap.size S (p + n')) := Lib.below_iterAt (Below.refl _ _) (Nat.le_refl _) S (p + n')
      have HIT := Lib.hid (Lib.iterAt_heap wr w1.heap.size S p (p + n') hit)
      have HIP := Lib.hid (show wr.iterPos w1.heap.size = p from iterPos_of hit)
      have hbV : Below w.heap.size w (wr.iterAt w1.heap.size S (p + n')) := hb.trans (hbi.mono hb1.size)
      obtain ⟨V, hV⟩ : ∃ V, wr.iterAt w1.heap.size S (p + n') = V := ⟨_, rfl⟩
      rw [hV] at hnx HIT hbV
      clear hd hc hit hcs hget hat hV hbi hb hCC hcl hnw hp'
      by_cases hk0 : done.length = 0
      · obtain rfl : p = 0 := hp0 hk0
        have HST := Lib.hid (show ∀ i, m < i → i < m + (done ++ [(r, n')]).length → stopAt l i = false by intro i h1 h2; rw [List.length_append, hk0] at h2; simp at h2; omega)
        have HWAS := Lib.hid (show ((nw : Nat) : Int) = wasZ l m (done ++ [(r, n')]).length by rw [List.length_append, hk0]; unfold wasZ; rw [hk0] at HCL; rw [if_neg (by simp), ← HCL.out]; rfl)
        rw [show wasZ l m done.length = -1 from by rw [hk0]; rfl]
        clear hp0 hk0 hkp
        go_wp2_with (first | (go_at_call 42; (with_reducible refine (HC.out _).mono ?_); rintro e w2 ⟨rfl, rfl⟩))
        go_roundw
        case rel => exact ⟨_, _, HCS.out, HIT.out, congrArg (Value.int .i64) HWAS.out, HST, hbV⟩
        case measure => rw [iterPos_of HIT.out, HIP.out]; omega
      · have hpp : (0 : Int) < (p : Int) := by omega
        obtain ⟨u, hu⟩ : ∃ u, clsAt l (m + done.length - 1) = u := ⟨_, rfl⟩
        rw [show wasZ l m done.length = ((u : Nat) : Int) from by unfold wasZ; rw [if_neg hk0, hu]]
        have HSO := Lib.hid (show stopAt l (m + done.length) = (nw != 0 && u != nw) by rw [stop_of (by omega), HCL.out, hu])
        have HWAS := Lib.hid (show ((nw : Nat) : Int) = wasZ l m (done ++ [(r, n')]).length by rw [List.length_append]; unfold wasZ; rw [if_neg (by simp), ← HCL.out]; rfl)
        have HSTA := Lib.hid (show stopAt l (m + done.length) = false → ∀ i, m < i → i < m + (done ++ [(r, n')]).length → stopAt l i = false by
          intro h i h1 h2
          rw [List.length_append, List.length_singleton] at h2
          by_cases e : i = m + done.length
          · rw [e]; exact h
          · exact hst.out i h1 (by omega))
        have HNX := Lib.hid (show stopAt l (m + done.length) = true → nextV l m = A + p by
          intro h
          rw [HAT.out]
          exact nextV_of (.inl ⟨m + done.length, by omega, by omega, h, hst.out, rfl⟩))
        clear hp0 hk0 hu
        by_cases hn0 : nw = 0
        · subst hn0
          have HST := Lib.hid (HSTA.out (by rw [HSO.out]; rfl))
          go_wp2_with (first | (go_at_call 42; (with_reducible refine (HC.out _).mono ?_); rintro e w2 ⟨rfl, rfl⟩))
          go_roundw
          case rel => exact ⟨_, _, HCS.out, HIT.out, congrArg (Value.int .i64) HWAS.out, HST, hbV⟩
          case measure => rw [iterPos_of HIT.out, HIP.out]; omega
        · have hn0' : (((nw : Nat) : Int) != 0) = true := bne_iff_ne.2 (by omega)
          by_cases hsame : nw = u
          · subst hsame
            have HST := Lib.hid (HSTA.out (by rw [HSO.out]; simp))
            clear hn0
            go_wp2_with (first | (go_at_call 42; (with_reducible refine (HC.out _).mono ?_); rintro e w2 ⟨rfl, rfl⟩))
            go_roundw
            case rel => exact ⟨_, _, HCS.out, HIT.out, congrArg (Value.int .i64) HWAS.out, HST, hbV⟩
            case measure => rw [iterPos_of HIT.out, HIP.out]; omega
          · have hs' : (((nw : Nat) : Int) != (u : Int)) = true := bne_iff_ne.2 (by omega)
            have HR := Lib.hid (HNX.out (by rw [HSO.out]; simp [hn0]; omega))
            have hpS : p ≤ 140737488351232 := by omega
            clear hn0 hsame
            go_wp2_with (first | (go_at_call 42; (with_reducible refine (HC.out _).mono ?_); rintro e w2 ⟨rfl, rfl⟩))
            go_ret
            exact ⟨ret_int (by rw [HR.out]; simp), hbV⟩
    · have hnx := fun ty => Lib.run_next_end_at (P := Tryd.prog) wr w1.heap.size S p ty hit hp
      have hE := (hc.end' (by omega)).1
      have hk : done.length = countN l - m := by rw [hE, ← HDC.out]; rfl
      have HR := Lib.hid (show nextV l m = s.size by rw [← HLS.out]; exact nextV_of (.inr ⟨fun i h1 h2 => hst.out i h1 (by omega), rfl⟩))
      clear hE hk hc hit
      go_wp2_with fail
      go_ret
      exact ⟨ret_int (by rw [HR.out]), hb⟩
end Go.Proofs.YtkknmbkfiiidmaaDoor
