/-
  The contract of the document's Parts, at places that rise within the text; and both, at others.
-/
import Derived.Test.YtpihmbdfhhjleaaDoorTalParts
namespace Go.Proofs.YtpihmbdfhhjleaaDoor
open Go.RowKit

set_option maxHeartbeats 800000 in
theorem rparts_any (s : ByteArray) (hs : s.size ≤ 140737488351232) (ao : Option Addr) (cap n : Nat) (cs : List Nat) (hl : cs.length = n) (hn : (n + 1) * 56 ≤ 140737488355328) (hr : Rise cs s.size) (w : World) (hA : SrcI w .i64 ao cap (zsI cs)) :
    Calls Tryd.prog 23 #[.string s, .slice ao n cap] w fun r w' => ∃ v, r = .returned (.tuple #[v, .int .i64 0]) ∧ w'.ownsRow w.heap.size 23 5 v (n + 1) (rowC (prl (bs s) cs n ++ [recOf ((bs s).drop (pf cs n))])) ∧ Below w.heap.size w w' := by
  obtain ⟨i0, hi, hz0, hz1, hz2⟩ := info_parts info_tally
  have HA := Lib.hid hA
  have HL := Lib.hid hl
  have HR := Lib.hid hr
  clear hA hl hr
  go_enter Tryd.func23, Tryd.ntmps23
  go_wp2_with fail
  go_loopw [6, 7, 8] (fun v f i wr' => ∃ j, j ≤ n ∧ i = .int .i64 (j : Nat) ∧ f = .int .i64 (pf cs j : Nat) ∧ Hid (wr'.ownsRow w.heap.size 23 5 v j (rowC (prl (bs s) cs j))) ∧ Below w.heap.size w wr') (fun _ _ i _ => n - (intOf i).toNat)
  case atStart => exact ⟨0, Nat.zero_le _, rfl, rfl, World.ownsRow_nil _ _ _ _, Below.refl _ _⟩
  case round =>
    obtain ⟨j, hj, rfl, rfl, hown, hb⟩ := hrel
    by_cases hjn : j < n
    · rcases HA.out.reads with h0 | ⟨g, o, rfl, hc⟩
      · have := congrArg List.length h0
        rw [zsI_len, HL.out] at this
        simp at this
        omega
      · have hck := hc j (by rw [zsI_len, HL.out]; exact hjn)
        have hrk := HR.out j (by rw [HL.out]; exact hjn)
        have hcv := zsI_get cs j (by rw [HL.out]; exact hjn)
        rw [hcv] at hck
        have HCK := Lib.hid hck
        have hltg := World.block_lt_of_cell? w _ hck
        have hck := (hb.cell (p := ⟨g, o + j, none⟩) hltg).trans hck
        have hpf := pf_succ cs j
        have hpc : bs (s.extract (pf cs j) (cs[j]?.getD 0)) = pieceAt (bs s) cs j := by
          rw [bs_extract]; unfold pieceAt; rw [List.take_drop, Nat.add_comm, Nat.sub_add_cancel hrk.1] <;> rfl
        obtain ⟨c, hcc⟩ : ∃ c, cs[j]?.getD 0 = c := ⟨_, rfl⟩
        obtain ⟨q, hq⟩ : ∃ q, pf cs j = q := ⟨_, rfl⟩
        rw [hcc] at hck hrk hpf hpc HCK
        rw [hq] at hrk hpc ⊢
        have hxs : (s.extract q c).size ≤ 140737488351232 := by rw [ByteArray.size_extract]; omega
        obtain ⟨x, hx⟩ : ∃ x, recOf (pieceAt (bs s) cs j) = x := ⟨_, rfl⟩
        have hii := recOf_is (pieceAt (bs s) cs j)
        rw [hx, ← hpc] at hii
        have HO := Lib.hid (rof_is (s := s.extract q c) hxs hii)
        have HX := Lib.hid hx
        have HPF := Lib.hid hpf
        have hki : (j : Int) < (n : Int) := by omega
        have hk0 : (0 : Int) ≤ (j : Int) := by omega
        have hq0 : (0 : Int) ≤ (q : Int) := by omega
        have hqc : (q : Int) ≤ (c : Int) := by omega
        have hcs : (c : Int) ≤ (s.size : Int) := by omega
        have hck0 := hck
        clear hcc hq hcv hpf hpc hii hx hxs
        go_wp2_with fail
        (with_reducible refine (HO.out _).mono ?_)
        rintro r w3 ⟨rfl, hb3⟩
        have hown := Lib.hid (owns_below hown.out hb3 (Nat.le_refl _))
        have hck3 := cell_keep hck0 hb3
        have hb := nx hb hb3
        have hsz := hb.size
        clear hb3 hc
        go_wp2_with (at_builtin; refine wpList_append_own _ rfl _ _ 38 rfl w.heap.size 23 i0 (.agg #[.int .i64 0, .int .i64 0, .int .i64 0, .string ⟨#[]⟩, .string ⟨#[]⟩]) 5 56 Tryd.underlying38 hi hz0 hz1 hz2 rfl (by decide) u6 _ _ rfl (hown.out.alloc _) ⟨w3.heap.size, 0, none⟩ 1 1 (recCells x) rfl (by simp [recCells]) (cells_new _ _ _) (recCells_one _) (by unfold maxLen; omega) (by omega) (by simp; omega) ?_; intro v' w9 hown' hgrow _; have hbg := (al hb (.cells #[.int .i64 x.b, .int .i64 x.c, .int .i64 x.l, .string x.h, .string x.t] 23)).grown hgrow (by simp; omega) (fun q e => (hown.out.lt q e).1); have hck9 := (hbg.cell (p := ⟨g, o + j, none⟩) hltg).trans HCK.out; clear hgrow)
        exact ⟨⟨j + 1, by omega, by go_num, by rw [HPF.out], by rw [prl_succ, rowC_snoc, HX.out]; exact hown', hbg⟩, by simp [intOf]; omega⟩
    · obtain rfl : j = n := by omega
      have hpl := pf_le HR.out (k := j) (by rw [HL.out]; omega)
      have hpc : bs (s.extract (pf cs j) s.size) = (bs s).drop (pf cs j) := bs_drop s _
      obtain ⟨q, hq⟩ : ∃ q, pf cs j = q := ⟨_, rfl⟩
      rw [hq] at hpl hpc ⊢
      obtain ⟨x, hx⟩ : ∃ x, recOf ((bs s).drop q) = x := ⟨_, rfl⟩
      have hii := recOf_is ((bs s).drop q)
      rw [hx, ← hpc] at hii
      have hxs : (s.extract q s.size).size ≤ 140737488351232 := by rw [ByteArray.size_extract]; omega
      have HO := Lib.hid (rof_is (s := s.extract q s.size) hxs hii)
      have HX := Lib.hid hx
      have hq0 : (0 : Int) ≤ (q : Int) := by omega
      have hqc : (q : Int) ≤ (s.size : Int) := by omega
      have HQ := Lib.hid hq
      clear hq hpc hii hx hxs
      go_wp2_with fail
      (with_reducible refine (HO.out _).mono ?_)
      rintro r w3 ⟨rfl, hb3⟩
      have hown := Lib.hid (owns_below hown.out hb3 (Nat.le_refl _))
      have hb := nx hb hb3
      have hsz := hb.size
      clear hb3
      go_wp2_with (at_builtin; refine wpList_append_own _ rfl _ _ 38 rfl w.heap.size 23 i0 (.agg #[.int .i64 0, .int .i64 0, .int .i64 0, .string ⟨#[]⟩, .string ⟨#[]⟩]) 5 56 Tryd.underlying38 hi hz0 hz1 hz2 rfl (by decide) u6 _ _ rfl (hown.out.alloc _) ⟨w3.heap.size, 0, none⟩ 1 1 (recCells x) rfl (by simp [recCells]) (cells_new _ _ _) (recCells_one _) (by unfold maxLen; omega) (by omega) (by simp; omega) ?_; intro v' w9 hown' hgrow _)
      have hbg := (al hb (.cells #[.int .i64 x.b, .int .i64 x.c, .int .i64 x.l, .string x.h, .string x.t] 23)).grown hgrow (by simp; omega) (fun q e => (hown.out.lt q e).1)
      go_ret2
      exact ⟨_, rfl, by rw [rowC_snoc, HQ.out, HX.out]; exact hown', hbg⟩
end Go.Proofs.YtpihmbdfhhjleaaDoor
