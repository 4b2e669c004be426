/-
  The contract of tally.Parts, at places that rise within the text.
-/
import Derived.Test.YtpihmbdfhhjleaaDoorTalMade
namespace Go.Proofs.YtpihmbdfhhjleaaDoor
open Go.RowKit

def recOf (l : Bs) : Rec := ⟨l.length, countN l, linN l, sB (hd3 l), sB (tl3 l)⟩
theorem recOf_is (l : Bs) : IsT l (recOf l).b (recOf l).c (recOf l).l (recOf l).h (recOf l).t := IsT.mk' l
theorem recOf_fit (l : Bs) (h : l.length ≤ 1125899906842624) : (recOf l).fit := (recOf_is l).fit h

/-- places as Go has them -/
def zsI (cs : List Nat) : List Int := cs.map fun c => Int.ofNat c
theorem zsI_len (cs : List Nat) : (zsI cs).length = cs.length := by simp [zsI]
theorem zsI_get (cs : List Nat) (k : Nat) (hk : k < cs.length) : (zsI cs)[k]?.getD 0 = ((cs[k]?.getD 0 : Nat) : Int) := by
  unfold zsI
  rw [List.getElem?_map, List.getElem?_eq_getElem hk]; rfl
/-- the place ahead of the k-th piece -/
def pf (cs : List Nat) (k : Nat) : Nat := if k = 0 then 0 else cs[k - 1]?.getD 0
def pieceAt (l : Bs) (cs : List Nat) (i : Nat) : Bs := (l.take (cs[i]?.getD 0)).drop (pf cs i)
def prl (l : Bs) (cs : List Nat) (k : Nat) : List Rec := (List.range k).map fun i => recOf (pieceAt l cs i)
theorem prl_len (l : Bs) (cs : List Nat) (k : Nat) : (prl l cs k).length = k := by simp [prl]
theorem prl_succ (l : Bs) (cs : List Nat) (k : Nat) : prl l cs (k + 1) = prl l cs k ++ [recOf (pieceAt l cs k)] := by simp [prl, List.range_succ]
/-- the places rise, within the text -/
def Rise (cs : List Nat) (m : Nat) : Prop := ∀ i, i < cs.length → pf cs i ≤ cs[i]?.getD 0 ∧ cs[i]?.getD 0 ≤ m
theorem pf_succ (cs : List Nat) (k : Nat) : pf cs (k + 1) = cs[k]?.getD 0 := by simp [pf]
theorem pf_le {cs : List Nat} {m k : Nat} (h : Rise cs m) (hk : k ≤ cs.length) : pf cs k ≤ m := by
  unfold pf
  split
  · omega
  · exact (h (k - 1) (by omega)).2

set_option maxHeartbeats 800000 in
theorem parts_any (s : ByteArray) (hs : s.size ≤ 140737488351232) (ao : Option Addr) (cap n : Nat) (cs : List Nat) (hl : cs.length = n) (hn : (n + 1) * 56 ≤ 140737488355328) (hr : Rise cs s.size) (w : World) (hA : SrcI w .i64 ao cap (zsI cs)) :
    Calls Tryd.prog 25 #[.string s, .slice ao n cap] w fun r w' => ∃ v, r = .returned (.tuple #[v, .int .i64 0]) ∧ w'.ownsRow w.heap.size 23 5 v (n + 1) (rowC (prl (bs s) cs n ++ [recOf ((bs s).drop (pf cs n))])) ∧ Below w.heap.size w w' := by
  obtain ⟨i0, hi, hz0, hz1, hz2⟩ := info_parts info_tally
  have HA := Lib.hid hA
  have HL := Lib.hid hl
  have HR := Lib.hid hr
  clear hA hl hr
  go_enter Tryd.func25, Tryd.ntmps25
  go_wp2_with fail
  go_loopw [6, 14] (fun f i wr => ∃ k, k ≤ n ∧ i = .int .i64 (k : Nat) ∧ f = .int .i64 (pf cs k : Nat) ∧ wr = w) (fun _ i _ => n - (intOf i).toNat)
  case atStart => exact ⟨0, Nat.zero_le _, rfl, rfl, rfl⟩
  case round =>
    obtain ⟨k, hk, rfl, rfl, hww⟩ := hrel
    have hww2 := hww.symm
    clear hww
    subst hww2
    by_cases hkn : k < n
    · rcases HA.out.reads with h0 | ⟨g, o, rfl, hc⟩
      · have := congrArg List.length h0
        rw [zsI_len, HL.out] at this
        simp at this
        omega
      · have hck := hc k (by rw [zsI_len, HL.out]; exact hkn)
        have hrk := HR.out k (by rw [HL.out]; exact hkn)
        have hcv := zsI_get cs k (by rw [HL.out]; exact hkn)
        rw [hcv] at hck
        have hpf := pf_succ cs k
        obtain ⟨c, hcc⟩ : ∃ c, cs[k]?.getD 0 = c := ⟨_, rfl⟩
        obtain ⟨q, hq⟩ : ∃ q, pf cs k = q := ⟨_, rfl⟩
        rw [hcc] at hck hrk hpf
        rw [hq] at hrk ⊢
        have HPF := Lib.hid hpf
        have hki : (k : Int) < (n : Int) := by omega
        have hk0 : (0 : Int) ≤ (k : Int) := by omega
        clear hcc hq hcv hc hpf
        go_wp2_with fail
        go_roundw
        case rel => exact ⟨k + 1, by omega, by go_num, by rw [HPF.out], trivial⟩
        case measure => simp [intOf]; omega
    · obtain rfl : k = n := by omega
      go_wp2_with fail
      go_loopw [6, 9, 31] (fun f v i wr' => ∃ j, j ≤ k ∧ i = .int .i64 (j : Nat) ∧ f = .int .i64 (pf cs j : Nat) ∧ Hid (wr'.ownsRow w.heap.size 23 5 v j (rowC (prl (bs s) cs j))) ∧ Below w.heap.size w wr') (fun _ _ i _ => k - (intOf i).toNat)
      case atStart => exact ⟨0, Nat.zero_le _, rfl, rfl, World.ownsRow_nil _ _ _ _, Below.refl _ _⟩
      case round =>
        obtain ⟨j, hj, rfl, rfl, hown, hb⟩ := hrel
        by_cases hjn : j < k
        · have HB := Lib.hid (HA.out.below hb (Nat.le_refl _))
          rcases HB.out.reads with h0 | ⟨g, o, rfl, hc⟩
          · have := congrArg List.length h0
            rw [zsI_len, HL.out] at this
            simp at this
            omega
          · have hck := hc j (by rw [zsI_len, HL.out]; exact hjn)
            have hrk := HR.out j (by rw [HL.out]; exact hjn)
            have hcv := zsI_get cs j (by rw [HL.out]; exact hjn)
            rw [hcv] at hck
            have hpf := pf_succ cs j
            have hpc : bs (s.extract (pf cs j) (cs[j]?.getD 0)) = pieceAt (bs s) cs j := by
              rw [bs_extract]; unfold pieceAt; rw [List.take_drop, Nat.add_comm, Nat.sub_add_cancel hrk.1] <;> rfl
            obtain ⟨c, hcc⟩ : ∃ c, cs[j]?.getD 0 = c := ⟨_, rfl⟩
            obtain ⟨q, hq⟩ : ∃ q, pf cs j = q := ⟨_, rfl⟩
            rw [hcc] at hck hrk hpf hpc
            rw [hq] at hrk hpc ⊢
            have hxs : (s.extract q c).size ≤ 140737488351232 := by rw [ByteArray.size_extract]; omega
            obtain ⟨x, hx⟩ : ∃ x, recOf (pieceAt (bs s) cs j) = x := ⟨_, rfl⟩
            have hii := recOf_is (pieceAt (bs s) cs j)
            rw [hx, ← hpc] at hii
            have HO := Lib.hid (of_is (s := s.extract q c) (by omega) hii)
            have HX := Lib.hid hx
            have HPF := Lib.hid hpf
            have hki : (j : Int) < (k : Int) := by omega
            have hk0 : (0 : Int) ≤ (j : Int) := by omega
            have hq0 : (0 : Int) ≤ (q : Int) := by omega
            have hqc : (q : Int) ≤ (c : Int) := by omega
            have hcs : (c : Int) ≤ (s.size : Int) := by omega
            clear hcc hq hcv hc hpf hpc hii hx hxs
            go_wp2_with fail
            (with_reducible refine (HO.out _).mono ?_)
            rintro r w3 ⟨rfl, hb3⟩
            have hown := Lib.hid (owns_below hown.out hb3 (Nat.le_refl _))
            have hb := nx hb hb3
            have hsz := hb.size
            clear hb3
            go_wp2_with (at_builtin; refine wpList_append_own _ rfl _ _ 38 rfl w.heap.size 23 i0 (.agg #[.int .i64 0, .int .i64 0, .int .i64 0, .string ⟨#[]⟩, .string ⟨#[]⟩]) 5 56 Tryd.underlying38 hi hz0 hz1 hz2 rfl (by decide) u9 _ _ rfl (hown.out.alloc _) ⟨w3.heap.size, 0, none⟩ 1 1 (recCells x) rfl (by simp [recCells]) (cells_new _ _ _) (recCells_one _) (by unfold maxLen; omega) (by omega) (by simp; omega) ?_; intro v' w9 hown' hgrow _)
            have hbg := (al hb (.cells #[.int .i64 x.b, .int .i64 x.c, .int .i64 x.l, .string x.h, .string x.t] 23)).grown hgrow (by simp; omega) (fun q e => (hown.out.lt q e).1)
            exact ⟨⟨j + 1, by omega, by go_num, by rw [HPF.out], by rw [prl_succ, rowC_snoc, HX.out]; exact hown', hbg⟩, by simp [intOf]; omega⟩
        · obtain rfl : j = k := by omega
          have hpl := pf_le HR.out (k := j) (by rw [HL.out]; omega)
          have hpc : bs (s.extract (pf cs j) s.size) = (bs s).drop (pf cs j) := bs_drop s _
          obtain ⟨q, hq⟩ : ∃ q, pf cs j = q := ⟨_, rfl⟩
          rw [hq] at hpl hpc ⊢
          obtain ⟨x, hx⟩ : ∃ x, recOf ((bs s).drop q) = x := ⟨_, rfl⟩
          have hii := recOf_is ((bs s).drop q)
          rw [hx, ← hpc] at hii
          have hxs : (s.extract q s.size).size ≤ 140737488351232 := by rw [ByteArray.size_extract]; omega
          have HO := Lib.hid (of_is (s := s.extract q s.size) (by omega) hii)
          have HX := Lib.hid hx
          have hq0 : (0 : Int) ≤ (q : Int) := by omega
          have hqc : (q : Int) ≤ (s.size : Int) := by omega
          have HQ := Lib.hid hq
          clear hq hpc hii hx hxs
          go_wp2_with fail
          (with_reducible refine (HO.out _).mono ?_)
          rintro r w3 ⟨rfl, hb3⟩
          have hown := Lib.hid (owns_below hown.out hb3 (Nat.le_refl _))
          have hb := nx hb hb3
          have hsz := hb.size
          clear hb3
          go_wp2_with (at_builtin; refine wpList_append_own _ rfl _ _ 38 rfl w.heap.size 23 i0 (.agg #[.int .i64 0, .int .i64 0, .int .i64 0, .string ⟨#[]⟩, .string ⟨#[]⟩]) 5 56 Tryd.underlying38 hi hz0 hz1 hz2 rfl (by decide) u9 _ _ rfl (hown.out.alloc _) ⟨w3.heap.size, 0, none⟩ 1 1 (recCells x) rfl (by simp [recCells]) (cells_new _ _ _) (recCells_one _) (by unfold maxLen; omega) (by omega) (by simp; omega) ?_; intro v' w9 hown' hgrow _)
          have hbg := (al hb (.cells #[.int .i64 x.b, .int .i64 x.c, .int .i64 x.l, .string x.h, .string x.t] 23)).grown hgrow (by simp; omega) (fun q e => (hown.out.lt q e).1)
          go_ret2
          exact ⟨_, rfl, by rw [rowC_snoc, HQ.out, HX.out]; exact hown', hbg⟩
end Go.Proofs.YtpihmbdfhhjleaaDoor
