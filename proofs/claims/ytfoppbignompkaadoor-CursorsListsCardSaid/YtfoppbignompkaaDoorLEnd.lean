/-
  The line end at a place: contracts of the program's End and of the document's.
-/
import Derived.Test.YtfoppbignompkaaDoorLineLaw
namespace Go.Proofs.YtfoppbignompkaaDoor
open Go.RowKit

theorem endZ_nat (l : Bs) (i : Nat) : endZ l (i : Int) = endN l i := by unfold endZ; rw [if_neg (by omega)]; rfl
theorem endZ_out (l : Bs) (c : Int) (h : (l.length : Int) ≤ c) : endZ l c = 0 := by
  unfold endZ
  by_cases h0 : c < 0
  · rw [if_pos h0]
  · rw [if_neg h0]; exact end_out (by omega)
theorem endZ_neg (l : Bs) (c : Int) (h : c < 0) : endZ l c = 0 := if_pos h
/-- is a number none? -/
def nzB (n : Nat) : Bool := n != 0
theorem end_ret {k : Nat} {n : Nat} {b : Bool} (h : k = n) (hb : nzB n = b) : Ending.returned (.tuple #[.int .i64 (n : Nat), .bool b]) = .returned (.tuple #[.int .i64 (k : Nat), .bool (nzB k)]) := by rw [h, hb]

set_option maxHeartbeats 4000000 in
theorem lend_any (s : ByteArray) (hs : s.size ≤ 140737488351232) (c : Int) (w : World) (hT : Tabs w) :
    Calls Tryd.prog 89 #[.string s, .int .i64 c] w fun e w' => e = .returned (.tuple #[.int .i64 (endZ (bs s) c : Nat), .bool (nzB (endZ (bs s) c))]) ∧ Below w.heap.size w w' := by
  have HT := Lib.hid hT
  clear hT
  by_cases h0 : c < 0
  · have HV := Lib.hid (endZ_neg (bs s) c h0)
    go_enter Tryd.func89, Tryd.ntmps89
    go_wp2_with fail
    go_ret2
    exact ⟨end_ret HV.out rfl, Below.refl _ _⟩
  · by_cases h1 : (s.size : Int) ≤ c
    · have HV := Lib.hid (endZ_out (bs s) c (by rw [← size_bs]; exact h1))
      go_enter Tryd.func89, Tryd.ntmps89
      go_wp2_with fail
      go_ret2
      exact ⟨end_ret HV.out rfl, Below.refl _ _⟩
    · obtain ⟨i, rfl⟩ : ∃ i : Nat, c = i := ⟨c.toNat, by omega⟩
      have hi : i < s.size := by omega
      have hi0 : (0 : Int) ≤ (i : Int) := by omega
      have hii : (i : Int) < (s.size : Int) := by omega
      have hd1 : decide (s.size ≤ i) = false := decide_eq_false (by omega)
      rw [endZ_nat]
      have hec := end_cases (bs s) i
      have hg := get_bs s i hi
      have hnx := get_bs s (i + 1)
      have hln : by' (bs s) (i + 1) ≠ 0 → i + 1 < s.size := fun h => by have := by_len h; rw [size_bs]; exact this
      obtain ⟨r, n, hd⟩ : ∃ r n, Lib.decodeL ((bs s).drop i) = (r, n) := ⟨_, _, rfl⟩
      have hED := fun h1 h2 => end_dec (bs s) i h1 h2 r n hd
      have hFF := fun w hT => first_some (s.extract i s.size) (r : Int) n (by rw [size_bs, bs_drop, List.length_drop, ← size_bs]; omega) (by rw [bs_drop, hd]) (by rw [bs_drop, hd]) w hT
      obtain ⟨ex, hx⟩ : ∃ e, endN (bs s) i = e := ⟨_, rfl⟩
      rw [hx] at hED hec ⊢
      obtain ⟨b, hb⟩ : ∃ b, by' (bs s) i = b := ⟨_, rfl⟩
      obtain ⟨b1, hb1⟩ : ∃ b, by' (bs s) (i + 1) = b := ⟨_, rfl⟩
      rw [hb] at hED hec hg
      rw [hb1] at hec hnx hln
      clear hd hx hb hb1 h0 h1
      by_cases e10 : b = 10
      · have hb10 : ((b : Int) == 10) = true := beq_iff_eq.2 (by omega)
        clear hED hFF hln hnx
        by_cases hz : i = 0
        · subst hz
          have hse : ¬ s = ByteArray.empty := by intro e; subst e; simp at hi
          have HV := Lib.hid (show ex = 1 by omega)
          clear hec e10
          go_enter Tryd.func89, Tryd.ntmps89
          go_wp2_with fail
          go_ret2
          exact ⟨end_ret HV.out rfl, Below.refl _ _⟩
        · obtain ⟨j, rfl⟩ : ∃ j, i = j + 1 := ⟨i - 1, by omega⟩
          have hgj := get_bs s j (by omega)
          rw [Nat.add_sub_cancel] at hec
          obtain ⟨p, hp⟩ : ∃ b, by' (bs s) j = b := ⟨_, rfl⟩
          rw [hp] at hec hgj
          have hj0 : (0 : Int) ≤ (j : Int) := by omega
          have hjj : (j : Int) < (s.size : Int) := by omega
          have hjs : j < s.size := by omega
          clear hp hz
          by_cases e13 : p = 13
          · have hp13 : ((p : Int) == 13) = true := beq_iff_eq.2 (by omega)
            have HV := Lib.hid (show ex = 0 by omega)
            clear hec e10 e13
            go_enter Tryd.func89, Tryd.ntmps89
            go_wp2_with fail
            go_ret2
            exact ⟨end_ret HV.out rfl, Below.refl _ _⟩
          · have hp13 : ((p : Int) == 13) = false := beq_eq_false_iff_ne.2 (by omega)
            have HV := Lib.hid (show ex = 1 by omega)
            clear hec e10 e13
            go_enter Tryd.func89, Tryd.ntmps89
            go_wp2_with fail
            go_ret2
            exact ⟨end_ret HV.out rfl, Below.refl _ _⟩
      · have hb10 : ((b : Int) == 10) = false := beq_eq_false_iff_ne.2 (by omega)
        by_cases e13 : b = 13
        · have hb13 : ((b : Int) == 13) = true := beq_iff_eq.2 (by omega)
          clear hED hFF
          by_cases hl : i + 1 < s.size
          · have hg1 := hnx hl
            have hl1 : (i : Int) + 1 < (s.size : Int) := by omega
            have hl0 : (0 : Int) ≤ (i : Int) + 1 := by omega
            by_cases e2 : b1 = 10
            · have h10 : ((b1 : Int) == 10) = true := beq_iff_eq.2 (by omega)
              have HV := Lib.hid (show ex = 2 by omega)
              clear hec e10 e13 e2 hnx hln
              go_enter Tryd.func89, Tryd.ntmps89
              go_wp2_with fail
              go_ret2
              exact ⟨end_ret HV.out rfl, Below.refl _ _⟩
            · have h10 : ((b1 : Int) == 10) = false := beq_eq_false_iff_ne.2 (by omega)
              have HV := Lib.hid (show ex = 1 by omega)
              clear hec e10 e13 e2 hnx hln
              go_enter Tryd.func89, Tryd.ntmps89
              go_wp2_with fail
              go_ret2
              exact ⟨end_ret HV.out rfl, Below.refl _ _⟩
          · have hl1 : (s.size : Int) ≤ (i : Int) + 1 := by omega
            have HV := Lib.hid (show ex = 1 by
              have : b1 = 0 := by
                rcases Nat.eq_zero_or_pos b1 with h | h
                · exact h
                · exact absurd (hln (by omega)) hl
              omega)
            clear hec e10 e13 hnx hln
            go_enter Tryd.func89, Tryd.ntmps89
            go_wp2_with fail
            go_ret2
            exact ⟨end_ret HV.out rfl, Below.refl _ _⟩
        · have hb13 : ((b : Int) == 13) = false := beq_eq_false_iff_ne.2 (by omega)
          have HF := Lib.hid hFF
          rcases hED e10 e13 with ⟨hr, he, hn0⟩ | ⟨a1, a2, a3, he⟩
          · have hR := end_right (n := n) hr
            rw [hR] at HF
            have HV := Lib.hid he
            have HN := Lib.hid (show nzB n = true from bne_iff_ne.2 hn0)
            clear hec e10 e13 hED hFF hR he hn0
            rcases hr with rfl | rfl | rfl
            all_goals
              go_enter Tryd.func89, Tryd.ntmps89
              go_wp2_with (first | (go_at_call 66; (with_reducible refine (HF.out _ HT.out).mono ?_); rintro e w1 ⟨rfl, hb1⟩))
              go_ret2
              exact ⟨end_ret HV.out HN.out, hb1⟩
          · have HV := Lib.hid he
            have hr1 : ((r : Int) == 133) = false := beq_eq_false_iff_ne.2 (by omega)
            have hr2 : ((r : Int) == 8232) = false := beq_eq_false_iff_ne.2 (by omega)
            have hr3 : ((r : Int) == 8233) = false := beq_eq_false_iff_ne.2 (by omega)
            clear hec e10 e13 hED hFF he a1 a2 a3
            go_enter Tryd.func89, Tryd.ntmps89
            go_wp2_with (first | (go_at_call 66; (with_reducible refine (HF.out _ HT.out).mono ?_); rintro e w1 ⟨rfl, hb1⟩))
            go_ret2
            exact ⟨end_ret HV.out rfl, hb1⟩
end Go.Proofs.YtfoppbignompkaaDoor
