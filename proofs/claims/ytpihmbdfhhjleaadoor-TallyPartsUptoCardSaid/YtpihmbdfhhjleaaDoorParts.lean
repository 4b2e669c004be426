/-
  The walk of the law TallyParts.
-/
import Derived.Test.YtpihmbdfhhjleaaDoorTalBoth
import Derived.Test.YtpihmbdfhhjleaaDoorAppend
namespace Go.Proofs.YtpihmbdfhhjleaaDoor
open Go.RowKit

theorem own_set {w : World} {base : Nat} {e : TypeId} {g n cap : Nat} {L : List Value} (h : w.ownsRow base e 5 (.slice (some ⟨g, 0, none⟩) n cap) n L) (o : Nat) (y : Rec) : ∃ L', (set5o w g o y).ownsRow base e 5 (.slice (some ⟨g, 0, none⟩) n cap) n L' := by
  unfold set5o
  exact ⟨_, ((((h.stored o _).1.stored (o + 1) _).1.stored (o + 2) _).1.stored (o + 3) _).1.stored (o + 4) _ |>.1⟩
theorem own_form {w : World} {base : Nat} {e : TypeId} {size : Nat} {v : Value} {n : Nat} {L : List Value} (h : w.ownsRow base e size v n L) (hn : 0 < n) : ∃ g cap, v = .slice (some ⟨g, 0, none⟩) n cap ∧ base ≤ g ∧ g < w.heap.size := by
  rcases h.2 with ⟨_, h0⟩ | ⟨g, cap, cur, hv, hb, hg, _⟩
  · omega
  · exact ⟨g, cap, hv, hb, (Array.getElem?_eq_some_iff.1 hg).1⟩
theorem own_apart {x y : Value} {B : Nat} (h3 : ∀ q, x.ownBlock = some q → q < B) (h4 : ∀ q, y.ownBlock = some q → B ≤ q) : y.ownBlock = none ∨ y.ownBlock ≠ x.ownBlock := by
  rcases hy : y.ownBlock with _ | q
  · exact .inl rfl
  · refine .inr fun e => ?_
    have := h3 q e.symm
    have := h4 q hy
    omega
theorem own_moved {x x' y : Value} {W W9 : World} {o : Obj} (h : y.ownBlock = none ∨ y.ownBlock ≠ x.ownBlock) (h4 : ∀ q, y.ownBlock = some q → q < W.heap.size) (hw : x'.ownBlock = x.ownBlock ∨ (x'.ownBlock = some (W.alloc o).heap.size ∧ (W.alloc o).grownBy W9 none)) : y.ownBlock = none ∨ y.ownBlock ≠ x'.ownBlock := by
  rcases hy : y.ownBlock with _ | q
  · exact .inl rfl
  · refine .inr fun e => ?_
    rw [hy] at h
    rcases hw with hw | ⟨hw, _⟩
    · rcases h with h | h
      · cases h
      · exact h (e.trans hw)
    · have := h4 q hy
      rw [hw, World.size_alloc] at e
      injection e with e
      omega
theorem own_some {w : World} {base : Nat} {e : TypeId} {g n cap : Nat} {L : List Value} (h : w.ownsRow base e 5 (.slice (some ⟨g, 0, none⟩) n cap) n L) (j : Nat) (hj : j < n * 5) : ∃ u, w.cell? ⟨g, j, none⟩ = some u := by
  have hl := h.1
  rw [h.cellAt j hj]
  exact ⟨_, List.getElem?_eq_getElem (by omega)⟩

set_option maxHeartbeats 1000000 in
theorem tallyParts_any (s : ByteArray) (hs : s.size ≤ 1048576) (ao : Option Addr) (cap n : Nat) (zs : List Int) (hl : zs.length = n) (hn : n ≤ 1048576) (w : World) (hT : Tabs w) (hA : SrcI w .i64 ao cap zs) :
    Calls Tryd.prog 9 #[.string s, .slice ao n cap] w fun e w' => e = .returned (.bool true) ∧ Below w.heap.size w w' := by
  have HT := Lib.hid hT
  obtain ⟨xs, e, hxl, hR, hP⟩ := parts_both s hs n zs hl hn
  obtain ⟨i0, hi, hz0, hz1, hz2⟩ := info_parts info_tally
  have HRP := Lib.hid hR
  have HPP := Lib.hid hP
  have HA := Lib.hid hA
  have HL := Lib.hid hl
  obtain ⟨m, hm⟩ : ∃ m, xs.length = m := ⟨_, rfl⟩
  have HM := Lib.hid hm
  rw [hm] at hxl
  clear hT hR hP hA hl hm
  go_enter Tryd.func9, Tryd.ntmps9
  go_wp2_with fail
  (with_reducible refine (HRP.out ao cap w HA.out).mono ?_)
  rintro r w1 ⟨v1, rfl, ho1, hb1⟩
  obtain ⟨a1, c1, rfl, R1⟩ := rowT_owned ho1
  rw [HM.out]
  have R1 := Lib.hid R1
  clear ho1
  go_wp2_with fail
  (with_reducible refine (spare_any ao cap n zs HL.out hn w1 (HA.out.below hb1 (Nat.le_refl _))).mono ?_)
  rintro r w2 ⟨rfl, hI, hb2⟩
  have R1w := R1.out.keep hb2
  have R1 := Lib.hid R1w
  have hb := nx hb1 hb2
  have hs2 := hb.size
  clear hb1 hb2
  go_wp2_with fail
  (with_reducible refine (HPP.out (some ⟨w1.heap.size, 0, none⟩) (n + 9) w2 (hI.src HL.out (n + 9))).mono ?_)
  rintro r w3 ⟨v3, rfl, ho3, hb3⟩
  have R1 := Lib.hid (R1.out.keep hb3)
  have hI := hI.keep hb3
  have hb := nx hb hb3
  have hs3 := hb3.size
  have R0 := Lib.hid R1w
  have hq := hb3
  clear hb3
  go_wp2_with fail
  (with_reducible refine (HPP.out (some ⟨w1.heap.size, 0, none⟩) (n + 9) w3 (hI.src HL.out (n + 9))).mono ?_)
  rintro r w4 ⟨v4, rfl, ho4, hb4⟩
  have R1 := Lib.hid (R1.out.keep hb4)
  have HLT := Lib.hid ho3.lt
  have ho3 := Lib.hid (owns_below ho3 hb4 (Nat.le_refl _))
  have hI := Lib.hid (hI.keep hb4)
  have hb := nx hb hb4
  have hs4 := hb4.size
  have hq := nx hq hb4
  clear R1w
  clear hb4
  obtain ⟨a3, c3, hv3, R3⟩ := rowT_owned ho3.out
  obtain ⟨a4, c4, hv4, R4⟩ := rowT_owned ho4
  have HO4 := Lib.hid ho4
  subst hv3 hv4
  rw [HM.out] at ho3 HO4 HLT ⊢
  have R3 := Lib.hid R3
  have R4 := Lib.hid R4
  clear ho4
  go_wp2_with fail
  (with_reducible refine (eq_same a3 a1 m c3 c1 xs HM.out (by omega) w4 R3.out R1.out).mono ?_)
  rintro r w5 ⟨rfl, hb5⟩
  have R1 := Lib.hid (R1.out.keep hb5)
  have R4 := Lib.hid (R4.out.keep hb5)
  have ho3 := Lib.hid (owns_below ho3.out hb5 (Nat.le_refl _))
  have HO4 := Lib.hid (owns_below HO4.out hb5 (Nat.le_refl _))
  have hI := Lib.hid (hI.out.keep hb5)
  have hb := nx hb hb5
  have hs5 := hb5.size
  have hq := nx hq hb5
  clear hb5 R3
  go_wp2_with fail
  (with_reducible refine (eq_same a4 a1 m c4 c1 xs HM.out (by omega) w5 R4.out R1.out).mono ?_)
  rintro r w6 ⟨rfl, hb6⟩
  have R1 := Lib.hid (R1.out.keep hb6)
  have ho3 := Lib.hid (owns_below ho3.out hb6 (Nat.le_refl _))
  have HO4 := Lib.hid (owns_below HO4.out hb6 (Nat.le_refl _))
  have hI := Lib.hid (hI.out.keep hb6)
  have hb := nx hb hb6
  have hs6 := hb6.size
  have hq := nx hq hb6
  clear hb6 R4
  go_wp2_with fail
  (with_reducible refine (kept_any ao cap n w1.heap.size zs HL.out hn w6 (HA.out.below hb (Nat.le_refl _)).reads hI.out).mono ?_)
  rintro r w7 ⟨rfl, hb7⟩
  have R1 := Lib.hid (R1.out.keep hb7)
  have ho3 := Lib.hid (owns_below ho3.out hb7 (Nat.le_refl _))
  have HO4 := Lib.hid (owns_below HO4.out hb7 (Nat.le_refl _))
  have hb := nx hb hb7
  have hs7 := hb7.size
  have hq := nx hq hb7
  clear hb7 hI
  have hsz : w3.heap.size ≤ w7.heap.size := by omega
  have HF3 : ∀ q, (Value.slice a3 m c3).ownBlock = some q → q < w3.heap.size := fun q h => (HLT.out q h).2
  have HF4 := Lib.hid HO4.out.lt
  have HF3 := Lib.hid HF3
  clear HLT HPP HRP R1 hs3 hs4 hs5 hs6 hs7
  go_wp2_with fail
  go_loopw [12] (fun i wr => ∃ k L, k ≤ m ∧ i = .int .i64 (k : Nat) ∧ Hid (wr.ownsRow w2.heap.size 23 5 (.slice a3 m c3) m L) ∧ Hid (wr.ownsRow w3.heap.size 23 5 (.slice a4 m c4) m (rowC xs)) ∧ Below w2.heap.size w2 wr ∧ Below w.heap.size w wr ∧ w3.heap.size ≤ wr.heap.size) (fun i _ => m - (intOf i).toNat)
  case atStart => exact ⟨0, _, Nat.zero_le _, rfl, ho3.out, HO4.out, hq, hb, hsz⟩
  case round =>
    obtain ⟨k, L, hk, rfl, ho3, HO4, hq, hb, hsz⟩ := hrel
    by_cases hkm : k < m
    · obtain ⟨g, cap3, hv, hg1, hg2⟩ := own_form ho3.out (by omega)
      obtain ⟨rfl, rfl⟩ : a3 = some ⟨g, 0, none⟩ ∧ c3 = cap3 := by injection hv with h1 h2 h3; exact ⟨h1, h3⟩
      have hg3 : g < w3.heap.size := HF3.out g rfl
      obtain ⟨u0, e0⟩ := own_some ho3.out (k * 5) (by omega)
      obtain ⟨u1, e1⟩ := own_some ho3.out (k * 5 + 1) (by omega)
      obtain ⟨u2, e2⟩ := own_some ho3.out (k * 5 + 2) (by omega)
      obtain ⟨u3, e3⟩ := own_some ho3.out (k * 5 + 3) (by omega)
      obtain ⟨u4, e4⟩ := own_some ho3.out (k * 5 + 4) (by omega)
      have z0 := ho3.out.frozenAt (k * 5)
      have z1 := ho3.out.frozenAt (k * 5 + 1)
      have z2 := ho3.out.frozenAt (k * 5 + 2)
      have z3 := ho3.out.frozenAt (k * 5 + 3)
      have z4 := ho3.out.frozenAt (k * 5 + 4)
      have hki : (k : Int) < (m : Int) := by omega
      have hk0 : (0 : Int) ≤ (k : Int) := by omega
      have hww : IntKind.i64.wrap (-1 - (k : Int)) = -1 - (k : Int) := by rw [IntKind.wrap_i64]; omega
      have HS := Lib.hid (own_set ho3.out (k * 5) ⟨-1 - (k : Int), 0, 0, ⟨#[]⟩, ⟨#[]⟩⟩)
      have HK := Lib.hid (owns_set5o HO4.out g (k * 5) ⟨-1 - (k : Int), 0, 0, ⟨#[]⟩, ⟨#[]⟩⟩ hg3)
      have hq2 := Lib.hid (set5o_below hq g (k * 5) ⟨-1 - (k : Int), 0, 0, ⟨#[]⟩, ⟨#[]⟩⟩ hg1)
      have hb2 := Lib.hid (set5o_below hb g (k * 5) ⟨-1 - (k : Int), 0, 0, ⟨#[]⟩, ⟨#[]⟩⟩ (by omega))
      have hsz2 : w3.heap.size ≤ (set5o wr g (k * 5) ⟨-1 - (k : Int), 0, 0, ⟨#[]⟩, ⟨#[]⟩⟩).heap.size := by rw [set5o_size]; exact hsz
      have hsz2 := Lib.hid hsz2
      clear hv
      go_wp2_with fail
      obtain ⟨L', hL'⟩ := HS.out
      exact ⟨⟨k + 1, L', by omega, by go_num, hL', HK.out, hq2.out, hb2.out, hsz2.out⟩, by simp [intOf]; omega⟩
    · obtain rfl : k = m := by omega
      have HNE := Lib.hid (own_apart HF3.out (fun q h => (HF4.out q h).1))
      clear hkm hk HF3
      go_wp2_with fail
      go_loopw [8, 13] (fun v i wr => ∃ j L, j ≤ 20 ∧ i = .int .i64 (j : Nat) ∧ Hid (wr.ownsRow w2.heap.size 23 5 v (k + j) L) ∧ Hid (wr.ownsRow w3.heap.size 23 5 (.slice a4 k c4) k (rowC xs)) ∧ Hid ((Value.slice a4 k c4).ownBlock = none ∨ (Value.slice a4 k c4).ownBlock ≠ v.ownBlock) ∧ Below w2.heap.size w2 wr ∧ Below w.heap.size w wr ∧ w3.heap.size ≤ wr.heap.size) (fun _ i _ => 20 - (intOf i).toNat)
      case atStart => exact ⟨0, _, Nat.zero_le _, rfl, ho3.out, HO4.out, HNE.out, hq, hb, hsz⟩
      case round =>
        obtain ⟨j, L, hj, rfl, ho3, HO4, HNE, hq, hb, hsz⟩ := hrel
        by_cases hj20 : j < 20
        · have hji : (j : Int) < 20 := by omega
          have hqs := hq.size
          go_wp2_with (at_builtin; refine wpList_append_where rfl _ _ 38 rfl w2.heap.size 23 i0 (.agg #[.int .i64 0, .int .i64 0, .int .i64 0, .string ⟨#[]⟩, .string ⟨#[]⟩]) 5 56 Tryd.underlying38 hi hz0 hz1 hz2 rfl (by decide) u8 _ _ rfl (ho3.out.alloc _) ⟨wr.heap.size, 0, none⟩ 1 1 (recCells ⟨-100, 0, 0, ⟨#[]⟩, ⟨#[]⟩⟩) rfl (by simp [recCells]) (cells_new_n _ _ _ _ rfl) (recCells_one _) (by unfold maxLen; omega) (by omega) (by simp only [World.size_alloc]; omega) (by decide) ?_; intro v' w9 hown' hgrow hwh)
          have hlo := ho3.out.lt
          have h1 := own_moved HNE.out (fun q h => (HO4.out.lt q h).2) hwh
          exact ⟨⟨j + 1, _, by omega, by go_num, by rw [← Nat.add_assoc]; exact hown', (HO4.out.alloc _).kept hgrow HNE.out, h1, (hq.alloc hqs _).grown hgrow (by simp only [World.size_alloc]; omega) (fun q h => (hlo q h).1), (hb.alloc hb.size _).grown hgrow (by simp only [World.size_alloc]; omega) (fun q h => Nat.le_trans hs2 (hlo q h).1), Nat.le_trans (by simp only [World.size_alloc]; omega) hgrow.size⟩, by simp [intOf]; omega⟩
        · obtain rfl : j = 20 := by omega
          obtain ⟨ao5, cap5, hv, hb5, hlt5⟩ := own_form ho3.out (by omega)
          obtain ⟨ao4, c4', hv4, hr4⟩ := rowT_owned (v := .slice a4 k c4) (r := xs) (by rw [HM.out]; exact HO4.out)
          obtain ⟨rfl, rfl⟩ : a4 = ao4 ∧ c4 = c4' := by injection hv4 with h1 h2 h3; exact ⟨h1, h3⟩
          have hr1 := R0.out.keep hq
          have HEQ := Lib.hid (eq_same a4 a1 k c4 c1 xs HM.out (by omega) wr hr4 hr1)
          have hw20 : IntKind.i64.wrap ((k : Int) + 20) = (k : Int) + 20 := by rw [IntKind.wrap_i64]; omega
          have HLN := Lib.hid (show (((k + 20 : Nat) : Int) == (k : Int) + 20) = true from beq_iff_eq.2 (by omega))
          subst hv
          clear hv4 hr4 hr1 ho3 HO4 HNE hq HF4
          go_wp2_with fail
          (with_reducible refine HEQ.out.mono ?_)
          rintro r w8 ⟨rfl, hb8⟩
          have hb := nx hb hb8
          have hln := HLN.out
          have HW := Lib.hid (works_any w8 (HT.out.below hb (Nat.le_refl _)))
          clear HEQ hb8 HLN
          go_wp2_with fail
          (with_reducible refine HW.out.mono ?_)
          rintro r w9 ⟨rfl, hb9⟩
          have hb := nx hb hb9
          go_wp2_with fail
          go_ret
          exact ⟨rfl, hb⟩
end Go.Proofs.YtpihmbdfhhjleaaDoor
