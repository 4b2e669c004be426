/-
  The walk of the law TallyWhole: wherever a text is cut, the tallies of its pieces add up to its own.
-/
import Derived.Test.YtpihmbdfhhjleaaDoorTalPlaces
import Derived.Test.YtpihmbdfhhjleaaDoorTells
namespace Go.Proofs.YtpihmbdfhhjleaaDoor
open Go.RowKit

theorem sumC_take (xs : List Rec) (h : ∀ x ∈ xs, 0 ≤ x.c ∧ x.c ≤ 1048576) (k : Nat) : 0 ≤ sumC (xs.take k) ∧ sumC (xs.take k) ≤ k * 1048576 := by
  induction xs generalizing k with
  | nil => simp [sumC]; omega
  | cons x xs ih =>
    cases k with
    | zero => simp [sumC]
    | succ k =>
      have h1 := h x (by simp)
      have h2 := ih (fun y hy => h y (by simp [hy])) k
      rw [List.take_succ_cons, sumC]
      constructor
      · omega
      · have : ((k + 1 : Nat) : Int) * 1048576 = (k : Int) * 1048576 + 1048576 := by omega
        omega
theorem sumC_step (xs : List Rec) (k : Nat) (hk : k < xs.length) : sumC (xs.take (k + 1)) = sumC (xs.take k) + (xs[k]'hk).c := by
  rw [List.take_succ_eq_append_getElem hk, sumC_append]; simp [sumC]

def wholeL (l : Bs) (cs : List Nat) : List Rec := prl l cs cs.length ++ [recOf (l.drop (pf cs cs.length))]
theorem wholeL_len (l : Bs) (cs : List Nat) : (wholeL l cs).length = cs.length + 1 := by simp [wholeL, prl_len]
theorem wholeL_mem (l : Bs) (cs : List Nat) (x : Rec) (h : x ∈ wholeL l cs) : ∃ m : Bs, m.length ≤ l.length ∧ x = recOf m := by
  unfold wholeL prl at h
  rw [List.mem_append, List.mem_map] at h
  rcases h with ⟨i, _, rfl⟩ | h
  · exact ⟨_, by unfold pieceAt; simp; omega, rfl⟩
  · simp at h
    exact ⟨_, by simp, h⟩

set_option maxHeartbeats 2000000 in
theorem tallyWhole_any (s : ByteArray) (hs : s.size ≤ 1048576) (ao : Option Addr) (cap n : Nat) (zs : List Int) (hl : zs.length = n) (hn : n ≤ 1048576) (hz : ∀ z ∈ zs, -9223372036854775808 ≤ z ∧ z ≤ 9223372036854775807) (w : World) (hT : Tabs w) (hA : SrcI w .i64 ao cap zs) :
    Calls Tryd.prog 10 #[.string s, .slice ao n cap] w fun e w' => e = .returned (.bool true) ∧ Below w.heap.size w w' := by
  have HT := Lib.hid hT
  have HP := Lib.hid (tplaces_any s (by omega) ao cap n zs hl (by omega) hz w hA)
  have hsl : (bs s).length ≤ 1048576 := by rw [← size_bs]; exact hs
  have HO := Lib.hid (of_is (s := s) (by omega) (recOf_is (bs s)))
  clear hT hA hl hz
  go_enter Tryd.func10, Tryd.ntmps10
  go_wp2_with fail
  (with_reducible refine HP.out.mono ?_)
  rintro r w1 ⟨v, cs, rfl, hcl, hrise, hown, hb⟩
  obtain ⟨vo, cap1, rfl, hsrc, hcap⟩ := src_of_owns hown
  have hsw := sum_whole (bs s) (by omega) cs (by rw [← size_bs]; exact hrise)
  have hcw := chars_whole (bs s) cs (by rw [← size_bs]; exact hrise)
  have HPA := Lib.hid (parts_any s (by omega) vo cap1 n cs hcl (by omega) hrise w1 hsrc)
  obtain ⟨xs, hxs⟩ : ∃ xs, wholeL (bs s) cs = xs := ⟨_, rfl⟩
  have hxl : xs.length = n + 1 := by rw [← hxs, wholeL_len, hcl]
  have hxm : ∀ x ∈ xs, x.fit ∧ 0 ≤ x.c ∧ x.c ≤ 1048576 := by
    intro x hx
    rw [← hxs] at hx
    obtain ⟨m, hm, rfl⟩ := wholeL_mem _ _ _ hx
    have := countN_le m
    exact ⟨recOf_fit m (by omega), by show (0 : Int) ≤ countN m; omega, by show (countN m : Int) ≤ 1048576; omega⟩
  unfold wholeL at hxs
  rw [hxs] at hsw hcw
  rw [hcl] at hcw
  rw [hcl] at hxs
  rw [hxs] at HPA
  have HSW := Lib.hid hsw
  have HCW := Lib.hid hcw
  have HXM := Lib.hid hxm
  have HXL := Lib.hid hxl
  clear hsw hcw hxm hxl hxs hsrc hown hcap hrise hcl HP
  go_wp2_with fail
  (with_reducible refine HPA.out.mono ?_)
  rintro r w2 ⟨v2, rfl, hown2, hb2⟩
  have hown2 : w2.ownsRow w1.heap.size 23 5 v2 xs.length (rowC xs) := by rw [HXL.out]; exact hown2
  obtain ⟨ao2, cap2, rfl, hrow⟩ := rowT_owned hown2
  rw [HXL.out]
  have hb := nx hb hb2
  have hne : (((n + 1 : Nat) : Int) != (n : Int) + 1) = false := by simp
  clear hown2 hb2 HPA
  obtain ⟨N, hN⟩ : ∃ N, n + 1 = N := ⟨_, rfl⟩
  have hNI : (n : Int) + 1 = (N : Int) := by omega
  rw [hN]
  have hb1 := hb
  go_wp2_with fail
  (with_reducible refine (sum_any ao2 N cap2 xs (by rw [HXL.out, hN]) (by omega) (fun i hi => (HXM.out _ (List.getElem_mem hi)).1) _ _ HSW.out _ (HT.out.below hb (Nat.le_refl _)) hrow).mono ?_)
  rintro r w3 ⟨rfl, hb3⟩
  have hrow := hrow.keep hb3
  have hb := nx hb hb3
  clear hb3 hb1
  obtain ⟨X, hX⟩ : ∃ X, recOf (bs s) = X := ⟨_, rfl⟩
  have HXE := Lib.hid hX
  rw [hX] at HO ⊢
  clear hX
  have hal := (Below.refl w3.heap.size w3).alloc (Nat.le_refl _) (.cells #[.int .i64 X.b, .int .i64 X.c, .int .i64 X.l, .string X.h, .string X.t] 23)
  have B8 := Lib.hid (BoxAt.new w3 X.b X.c X.l X.h X.t)
  have HRW := Lib.hid (hrow.keep hal)
  have hb := nx hb hal
  clear hal hrow
  go_wp2_with fail
  obtain ⟨W3, hW3⟩ : ∃ W3, W3 = w3.alloc (.cells #[.int .i64 X.b, .int .i64 X.c, .int .i64 X.l, .string X.h, .string X.t] 23) := ⟨_, rfl⟩
  rw [← hW3] at B8 HRW hb ⊢
  clear hW3
  have hN2 : N ≤ 1048577 := by omega
  have hXN : xs.length = N := by rw [HXL.out, hN]
  have HXN := Lib.hid hXN
  clear hXN
  go_loopw [10, 11] (fun c i wr => ∃ k, k ≤ N ∧ i = .int .i64 (k : Nat) ∧ c = .int .i64 (sumC (xs.take k)) ∧ wr = W3) (fun _ i _ => N - (intOf i).toNat)
  case atStart => exact ⟨0, Nat.zero_le _, rfl, rfl, rfl⟩
  case round =>
    obtain ⟨k, hk, rfl, rfl, hww⟩ := hrel
    subst hww
    by_cases hkn : k < N
    · have hlx : k < xs.length := by rw [HXN.out]; exact hkn
      obtain ⟨g, o, rfl, hre⟩ := HRW.out k hlx
      have hst := sumC_step xs k hlx
      have hbd := sumC_take xs (fun x hx => (HXM.out x hx).2) k
      have hxc := (HXM.out _ (List.getElem_mem hlx)).2
      obtain ⟨x, hxx⟩ : ∃ x, xs[k]'hlx = x := ⟨_, rfl⟩
      rw [hxx] at hre hst hxc
      obtain ⟨S, hS⟩ : ∃ S, sumC (xs.take k) = S := ⟨_, rfl⟩
      rw [hS] at hst hbd ⊢
      have HST := Lib.hid hst
      obtain ⟨_, e1, _⟩ := hre
      have hv : -9223372036854775808 ≤ S + x.c ∧ S + x.c ≤ 9223372036854775807 := by omega
      have hki : (k : Int) < (N : Int) := by omega
      have hk0 : (0 : Int) ≤ (k : Int) := by omega
      clear hst hxx hS
      go_wp2_with fail
      go_roundw
      case rel => exact ⟨k + 1, by omega, by go_num, by rw [HST.out], trivial⟩
      case measure => simp [intOf]; omega
    · obtain rfl : k = N := by omega
      have hcw := HCW.out
      rw [List.take_of_length_le (by rw [HXN.out]; exact Nat.le_refl _)]
      obtain ⟨S, hS⟩ : ∃ S, sumC xs = S := ⟨_, rfl⟩
      rw [hS] at hcw ⊢
      have hxc : X.c = countN (bs s) := by rw [← HXE.out]; rfl
      rw [← hxc] at hcw
      clear hS
      go_wp2_with fail
      obtain ⟨W4, hW4⟩ : ∃ W4, W4 = wr := ⟨_, rfl⟩
      subst hW4
      go_loopw [12] (fun m wr' => ∃ done p, Cut (bs s) done p ∧ m = .int .i64 (done.length : Nat) ∧ wr' = W4.iter s p) (fun _ wr' => s.size - wr'.iterPos W4.heap.size)
      case atStart => exact ⟨[], 0, Cut.zero _, rfl, rfl⟩
      case round =>
        obtain ⟨done, p, hc, rfl, rfl⟩ := hrel
        have hle := hc.len_le
        have hpl := hc.1
        rw [← size_bs] at hpl
        by_cases hp : p < s.size
        · have hnx := fun ty => run_next_any (P := Tryd.prog) W4 s p ty hp
          have hst := Lib.hid (hc.step (by rw [← size_bs]; exact hp))
          rw [decode_bs] at hnx
          have hw := (wid_bounds ((bs s).drop p)).1
          obtain ⟨d, hd⟩ : ∃ d, d = Lib.decodeL ((bs s).drop p) := ⟨_, rfl⟩
          rw [← hd] at hnx hst hw
          clear hd hc
          go_wp2_with fail
          go_roundw
          case rel => exact ⟨_, _, hst.out, by simp, rfl⟩
          case measure => simp; omega
        · have hnx := fun ty => run_next_end (P := Tryd.prog) W4 s p ty hp
          have he := (hc.end' (by rw [← size_bs]; exact hp)).1
          have hcd : X.c = done.length := by rw [hxc]; unfold countN; rw [he]
          have hcn : (X.c == (done.length : Int)) = true := beq_iff_eq.2 hcd
          have hg1 : decide ((done.length : Int) ≤ S) = true := decide_eq_true (by omega)
          have hg2 : decide (S ≤ (done.length : Int) + 3 * (n : Int)) = true := decide_eq_true (by omega)
          have hw1 : IntKind.i64.wrap (3 * (n : Int)) = 3 * (n : Int) := by rw [IntKind.wrap_i64]; omega
          have hw2 : IntKind.i64.wrap ((done.length : Int) + 3 * (n : Int)) = (done.length : Int) + 3 * (n : Int) := by rw [IntKind.wrap_i64]; omega
          have hal : Below W4.heap.size W4 (W4.iter s p) := by unfold World.iter; exact (Below.refl _ _).alloc (Nat.le_refl _) _
          have hb2 := nx hb hal
          have X8 := B8.out.keep hal
          obtain ⟨W, hW⟩ : ∃ W, W4.iter s p = W := ⟨_, rfl⟩
          rw [hW] at hnx hb2 X8 ⊢
          clear hW he hc hal hcd hxc hcw
          obtain ⟨x0, x1, x2, x3, x4⟩ := X8
          have hS := And.intro x0 (And.intro x1 (And.intro x2 (And.intro x3 (And.intro x4 hb2))))
          have hgd := guard_tal
          have heq := fun w => eq_tal X.b X.c X.l X.h X.t X.b X.c X.l X.h X.t w
          rw [show eqT X.b X.c X.l X.h X.t X.b X.c X.l X.h X.t = true from decide_eq_true ⟨rfl, rfl, rfl, rfl, rfl⟩] at heq
          go_wp2_with fail
          go_region_held3 (fun w' => w'.cell? ⟨w3.heap.size, 0, none⟩ = some (.int .i64 X.b) ∧ w'.cell? ⟨w3.heap.size, 1, none⟩ = some (.int .i64 X.c) ∧ w'.cell? ⟨w3.heap.size, 2, none⟩ = some (.int .i64 X.l) ∧ w'.cell? ⟨w3.heap.size, 3, none⟩ = some (.string X.h) ∧ w'.cell? ⟨w3.heap.size, 4, none⟩ = some (.string X.t) ∧ Below w.heap.size w w') (first | (with_reducible assumption) | (with_reducible exact box_keep hS (Below.refl _ _).drew) | (with_reducible exact box_keep (by assumption) (by assumption)))
            (first | (go_at_call 11; (with_reducible refine (HO.out _).mono ?_); rintro e w' ⟨rfl, hb'⟩) | (go_at_call 14; (with_reducible refine (works_any _ (box_tabs (by assumption) HT.out)).mono ?_); rintro e w' ⟨rfl, hb'⟩))
          all_goals
            go_wp2_with fail
            rename_i HH
            go_ret
            exact ⟨rfl, HH.2.2.2.2.2⟩
end Go.Proofs.YtpihmbdfhhjleaaDoor
