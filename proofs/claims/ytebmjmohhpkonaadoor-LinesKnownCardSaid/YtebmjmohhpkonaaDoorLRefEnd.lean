/-
  The document's line end at a place: its contract.
-/
import Derived.Test.YtebmjmohhpkonaaDoorLEnd
namespace Go.Proofs.YtebmjmohhpkonaaDoor
open Go.RowKit

/-- the width that the document's End hands back (where none ends, too) -/
def endR (l : Bs) (i : Nat) : Nat := if by' l i = 10 then 1 else endN l i
def endRZ (l : Bs) (c : Int) : Nat := if c < 0 ∨ (l.length : Int) ≤ c then 0 else endR l c.toNat
theorem endRZ_nat {l : Bs} {i : Nat} (h : i < l.length) : endRZ l (i : Nat) = endR l i := if_neg (by omega)
theorem endRZ_out {l : Bs} {c : Int} (h : c < 0 ∨ (l.length : Int) ≤ c) : endRZ l c = 0 := if_pos h
theorem endR_yes {l : Bs} {i : Nat} (h : endN l i ≠ 0) : endR l i = endN l i := by
  unfold endR
  by_cases a : by' l i = 10
  · rw [if_pos a]
    rcases end_cases l i with h1 | h1 | h1 | h1 | h1 | h1 | h1 <;> omega
  · rw [if_neg a]
theorem end_ret' {k m : Nat} {n : Nat} {v : Int} {b : Bool} (h : v = (k : Nat)) (h2 : m = n) (hb : nzB n = b) : Ending.returned (.tuple #[.int .i64 v, .bool b]) = .returned (.tuple #[.int .i64 (k : Nat), .bool (nzB m)]) := by rw [h, h2, hb]

set_option maxHeartbeats 8000000 in
theorem refend_any (s : ByteArray) (hs : s.size ≤ 140737488351232) (c : Int) (w : World) :
    Calls Tryd.prog 12 #[.string s, .int .i64 c] w fun e w' => e = .returned (.tuple #[.int .i64 (endRZ (bs s) c : Nat), .bool (nzB (endZ (bs s) c))]) ∧ Below w.heap.size w w' := by
  by_cases h0 : c < 0
  · have HV := Lib.hid (endZ_neg (bs s) c h0)
    have HK := Lib.hid (show (0 : Int) = (endRZ (bs s) c : Nat) by rw [endRZ_out (.inl h0)]; rfl)
    go_enter Tryd.func12, Tryd.ntmps12
    go_wp2_with fail
    go_ret2
    exact ⟨end_ret' HK.out HV.out rfl, Below.refl _ _⟩
  · by_cases h1 : (s.size : Int) ≤ c
    · have HV := Lib.hid (endZ_out (bs s) c (by rw [← size_bs]; exact h1))
      have HK := Lib.hid (show (0 : Int) = (endRZ (bs s) c : Nat) by rw [endRZ_out (.inr (by rw [← size_bs]; exact h1))]; rfl)
      go_enter Tryd.func12, Tryd.ntmps12
      go_wp2_with fail
      go_ret2
      exact ⟨end_ret' HK.out HV.out rfl, Below.refl _ _⟩
    · obtain ⟨i, rfl⟩ : ∃ i : Nat, c = i := ⟨c.toNat, by omega⟩
      have hi : i < s.size := by omega
      have hi0 : (0 : Int) ≤ (i : Int) := by omega
      have hii : (i : Int) < (s.size : Int) := by omega
      have hd1 : decide (s.size ≤ i) = false := decide_eq_false (by omega)
      rw [endZ_nat, endRZ_nat (by rw [← size_bs]; exact hi)]
      have hec := end_cases (bs s) i
      have her : endR (bs s) i = if by' (bs s) i = 10 then 1 else endN (bs s) i := rfl
      have hR : bs (s.extract i s.size) = (bs s).drop i := bs_drop s i
      have hRz : (s.extract i s.size).size = s.size - i := by rw [ByteArray.size_extract]; omega
      obtain ⟨R, hRR⟩ : ∃ R, s.extract i s.size = R := ⟨_, rfl⟩
      rw [hRR] at hR hRz
      have hr0 := fun h => get_bs R 0 h
      have hr1 := fun h => get_bs R 1 h
      have hr2 := fun h => get_bs R 2 h
      rw [hR, by_drop, Nat.add_zero] at hr0
      rw [hR, by_drop] at hr1
      rw [hR, by_drop] at hr2
      have hl1 : by' (bs s) (i + 1) ≠ 0 → 1 < R.size := fun h => by have := by_len h; rw [← size_bs] at this; omega
      have hl2 : by' (bs s) (i + 2) ≠ 0 → 2 < R.size := fun h => by have := by_len h; rw [← size_bs] at this; omega
      have hpv : ∀ j, i = j + 1 → by' (bs s) (i - 1) = by' (bs s) j := fun j e => by rw [e, Nat.add_sub_cancel]
      have hgp : ∀ j (hj : j < s.size), (s[j]'hj).toNat = by' (bs s) j := fun j hj => get_bs s j hj
      obtain ⟨ex, hx⟩ : ∃ e, endN (bs s) i = e := ⟨_, rfl⟩
      obtain ⟨k, hk⟩ : ∃ e, endR (bs s) i = e := ⟨_, rfl⟩
      obtain ⟨b, hb⟩ : ∃ b, by' (bs s) i = b := ⟨_, rfl⟩
      obtain ⟨b1, hb1⟩ : ∃ b, by' (bs s) (i + 1) = b := ⟨_, rfl⟩
      obtain ⟨b2, hb2⟩ : ∃ b, by' (bs s) (i + 2) = b := ⟨_, rfl⟩
      rw [hx] at hec her ⊢
      rw [hk] at her ⊢
      rw [hb] at hec her hr0
      rw [hb1] at hec hr1 hl1
      rw [hb2] at hec hr2 hl2
      have hn1 : 1 ≤ R.size := by omega
      have hn0 : 0 < R.size := hn1
      have hg0 := hr0 hn0
      have hs1 : s.size - i = R.size := hRz.symm
      have hRb : R.size ≤ 140737488351232 := by omega
      clear hR hRz hx hk hb hb1 hb2 h0 h1 hr0
      by_cases e13 : b = 13
      · have qb13 : (((b : Nat) : Int) == 13) = true := beq_iff_eq.2 (by omega)
        have qb10 : (((b : Nat) : Int) == 10) = false := beq_eq_false_iff_ne.2 (by omega)
        have qb194 : (((b : Nat) : Int) == 194) = false := beq_eq_false_iff_ne.2 (by omega)
        have qb226 : (((b : Nat) : Int) == 226) = false := beq_eq_false_iff_ne.2 (by omega)
        by_cases hz1 : 1 < R.size
        · have hz1i : (1 : Int) < (R.size : Int) := by omega
          have hz1d : decide (1 < R.size) = true := decide_eq_true hz1
          have hg1 := hr1 hz1
          by_cases hz2 : 2 < R.size
          · have hz2i : (2 : Int) < (R.size : Int) := by omega
            have hz2d : decide (2 < R.size) = true := decide_eq_true hz2
            have hg2 := hr2 hz2
            by_cases f10 : b1 = 10
            · have qb110 : (((b1 : Nat) : Int) == 10) = true := beq_iff_eq.2 (by omega)
              have HV := Lib.hid (show ex = 2 by omega)
              have HK := Lib.hid (show (2 : Int) = (k : Nat) by by_cases e : b = 10; rw [if_pos e] at her; omega; rw [if_neg e] at her; omega)
              clear hec her hl1 hl2 hr1 hr2 hpv hgp
              go_enter Tryd.func12, Tryd.ntmps12
              go_wp2_with fail
              go_ret2
              exact ⟨end_ret' HK.out HV.out rfl, Below.refl _ _⟩
            · have qb110 : (((b1 : Nat) : Int) == 10) = false := beq_eq_false_iff_ne.2 (by omega)
              have HV := Lib.hid (show ex = 1 by omega)
              have HK := Lib.hid (show (1 : Int) = (k : Nat) by by_cases e : b = 10; rw [if_pos e] at her; omega; rw [if_neg e] at her; omega)
              clear hec her hl1 hl2 hr1 hr2 hpv hgp
              go_enter Tryd.func12, Tryd.ntmps12
              go_wp2_with fail
              go_ret2
              exact ⟨end_ret' HK.out HV.out rfl, Below.refl _ _⟩
          · have hz2i : (R.size : Int) ≤ 2 := by omega
            have hz2d : decide (2 < R.size) = false := decide_eq_false hz2
            by_cases f10 : b1 = 10
            · have qb110 : (((b1 : Nat) : Int) == 10) = true := beq_iff_eq.2 (by omega)
              have HV := Lib.hid (show ex = 2 by omega)
              have HK := Lib.hid (show (2 : Int) = (k : Nat) by by_cases e : b = 10; rw [if_pos e] at her; omega; rw [if_neg e] at her; omega)
              clear hec her hl1 hl2 hr1 hr2 hpv hgp
              go_enter Tryd.func12, Tryd.ntmps12
              go_wp2_with fail
              go_ret2
              exact ⟨end_ret' HK.out HV.out rfl, Below.refl _ _⟩
            · have qb110 : (((b1 : Nat) : Int) == 10) = false := beq_eq_false_iff_ne.2 (by omega)
              have HV := Lib.hid (show ex = 1 by omega)
              have HK := Lib.hid (show (1 : Int) = (k : Nat) by by_cases e : b = 10; rw [if_pos e] at her; omega; rw [if_neg e] at her; omega)
              clear hec her hl1 hl2 hr1 hr2 hpv hgp
              go_enter Tryd.func12, Tryd.ntmps12
              go_wp2_with fail
              go_ret2
              exact ⟨end_ret' HK.out HV.out rfl, Below.refl _ _⟩
        · have hz1i : (R.size : Int) ≤ 1 := by omega
          have hz1d : decide (1 < R.size) = false := decide_eq_false hz1
          have hz2i : (R.size : Int) ≤ 2 := by omega
          have hz2d : decide (2 < R.size) = false := decide_eq_false (by omega)
          have zb1 : b1 = 0 := by rcases Nat.eq_zero_or_pos b1 with h | h; exact h; exact absurd (hl1 (by omega)) (by omega)
          have HV := Lib.hid (show ex = 1 by omega)
          have HK := Lib.hid (show (1 : Int) = (k : Nat) by by_cases e : b = 10; rw [if_pos e] at her; omega; rw [if_neg e] at her; omega)
          clear hec her hl1 hl2 hr1 hr2 hpv hgp
          go_enter Tryd.func12, Tryd.ntmps12
          go_wp2_with fail
          go_ret2
          exact ⟨end_ret' HK.out HV.out rfl, Below.refl _ _⟩
      by_cases e10 : b = 10
      · have qb13 : (((b : Nat) : Int) == 13) = false := beq_eq_false_iff_ne.2 (by omega)
        have qb10 : (((b : Nat) : Int) == 10) = true := beq_iff_eq.2 (by omega)
        have qb194 : (((b : Nat) : Int) == 194) = false := beq_eq_false_iff_ne.2 (by omega)
        have qb226 : (((b : Nat) : Int) == 226) = false := beq_eq_false_iff_ne.2 (by omega)
        by_cases hz1 : 1 < R.size
        · have hz1i : (1 : Int) < (R.size : Int) := by omega
          have hz1d : decide (1 < R.size) = true := decide_eq_true hz1
          have hg1 := hr1 hz1
          by_cases hz2 : 2 < R.size
          · have hz2i : (2 : Int) < (R.size : Int) := by omega
            have hz2d : decide (2 < R.size) = true := decide_eq_true hz2
            have hg2 := hr2 hz2
            by_cases hi : i = 0
            · subst hi
              have hse : ¬ s = ByteArray.empty := by intro e; subst e; simp at hii
              have HV := Lib.hid (show ex = 1 by omega)
              have HK := Lib.hid (show (1 : Int) = (k : Nat) by by_cases e : b = 10; rw [if_pos e] at her; omega; rw [if_neg e] at her; omega)
              clear hec her hl1 hl2 hr1 hr2 hpv hgp
              go_enter Tryd.func12, Tryd.ntmps12
              go_wp2_with fail
              go_quiet (fail)
              go_wp2_with fail
              go_ret2
              exact ⟨end_ret' HK.out HV.out rfl, below_drewN (Below.refl _ _) _⟩
            · obtain ⟨j, rfl⟩ : ∃ j, i = j + 1 := ⟨i - 1, by omega⟩
              have hgj := hgp j (by omega)
              have hpj := hpv j rfl
              obtain ⟨p, hp⟩ : ∃ b, by' (bs s) j = b := ⟨_, rfl⟩
              rw [hpj, hp] at hec
              rw [hp] at hgj
              have hj0 : (0 : Int) ≤ (j : Int) := by omega
              have hjj : (j : Int) < (s.size : Int) := by omega
              have hjs : j < s.size := by omega
              have hjz : (((j : Nat) : Int) + 1 == 0) = false := beq_eq_false_iff_ne.2 (by omega)
              clear hp hpj
              by_cases g13 : p = 13
              · have qp : (((p : Nat) : Int) != 13) = false := by simp; omega
                have HV := Lib.hid (show ex = 0 by omega)
                have HK := Lib.hid (show (1 : Int) = (k : Nat) by by_cases e : b = 10; rw [if_pos e] at her; omega; rw [if_neg e] at her; omega)
                clear hec her hl1 hl2 hr1 hr2 hpv hgp
                go_enter Tryd.func12, Tryd.ntmps12
                go_wp2_with fail
                go_quiet (fail)
                go_wp2_with fail
                go_ret2
                exact ⟨end_ret' HK.out HV.out rfl, below_drewN (Below.refl _ _) _⟩
              · have qp : (((p : Nat) : Int) != 13) = true := bne_iff_ne.2 (by omega)
                have HV := Lib.hid (show ex = 1 by omega)
                have HK := Lib.hid (show (1 : Int) = (k : Nat) by by_cases e : b = 10; rw [if_pos e] at her; omega; rw [if_neg e] at her; omega)
                clear hec her hl1 hl2 hr1 hr2 hpv hgp
                go_enter Tryd.func12, Tryd.ntmps12
                go_wp2_with fail
                go_quiet (fail)
                go_wp2_with fail
                go_ret2
                exact ⟨end_ret' HK.out HV.out rfl, below_drewN (Below.refl _ _) _⟩
          · have hz2i : (R.size : Int) ≤ 2 := by omega
            have hz2d : decide (2 < R.size) = false := decide_eq_false hz2
            by_cases hi : i = 0
            · subst hi
              have hse : ¬ s = ByteArray.empty := by intro e; subst e; simp at hii
              have HV := Lib.hid (show ex = 1 by omega)
              have HK := Lib.hid (show (1 : Int) = (k : Nat) by by_cases e : b = 10; rw [if_pos e] at her; omega; rw [if_neg e] at her; omega)
              clear hec her hl1 hl2 hr1 hr2 hpv hgp
              go_enter Tryd.func12, Tryd.ntmps12
              go_wp2_with fail
              go_quiet (fail)
              go_wp2_with fail
              go_ret2
              exact ⟨end_ret' HK.out HV.out rfl, below_drewN (Below.refl _ _) _⟩
            · obtain ⟨j, rfl⟩ : ∃ j, i = j + 1 := ⟨i - 1, by omega⟩
              have hgj := hgp j (by omega)
              have hpj := hpv j rfl
              obtain ⟨p, hp⟩ : ∃ b, by' (bs s) j = b := ⟨_, rfl⟩
              rw [hpj, hp] at hec
              rw [hp] at hgj
              have hj0 : (0 : Int) ≤ (j : Int) := by omega
              have hjj : (j : Int) < (s.size : Int) := by omega
              have hjs : j < s.size := by omega
              have hjz : (((j : Nat) : Int) + 1 == 0) = false := beq_eq_false_iff_ne.2 (by omega)
              clear hp hpj
              by_cases g13 : p = 13
              · have qp : (((p : Nat) : Int) != 13) = false := by simp; omega
                have HV := Lib.hid (show ex = 0 by omega)
                have HK := Lib.hid (show (1 : Int) = (k : Nat) by by_cases e : b = 10; rw [if_pos e] at her; omega; rw [if_neg e] at her; omega)
                clear hec her hl1 hl2 hr1 hr2 hpv hgp
                go_enter Tryd.func12, Tryd.ntmps12
                go_wp2_with fail
                go_quiet (fail)
                go_wp2_with fail
                go_ret2
                exact ⟨end_ret' HK.out HV.out rfl, below_drewN (Below.refl _ _) _⟩
              · have qp : (((p : Nat) : Int) != 13) = true := bne_iff_ne.2 (by omega)
                have HV := Lib.hid (show ex = 1 by omega)
                have HK := Lib.hid (show (1 : Int) = (k : Nat) by by_cases e : b = 10; rw [if_pos e] at her; omega; rw [if_neg e] at her; omega)
                clear hec her hl1 hl2 hr1 hr2 hpv hgp
                go_enter Tryd.func12, Tryd.ntmps12
                go_wp2_with fail
                go_quiet (fail)
                go_wp2_with fail
                go_ret2
                exact ⟨end_ret' HK.out HV.out rfl, below_drewN (Below.refl _ _) _⟩
        · have hz1i : (R.size : Int) ≤ 1 := by omega
          have hz1d : decide (1 < R.size) = false := decide_eq_false hz1
          have hz2i : (R.size : Int) ≤ 2 := by omega
          have hz2d : decide (2 < R.size) = false := decide_eq_false (by omega)
          by_cases hi : i = 0
          · subst hi
            have hse : ¬ s = ByteArray.empty := by intro e; subst e; simp at hii
            have HV := Lib.hid (show ex = 1 by omega)
            have HK := Lib.hid (show (1 : Int) = (k : Nat) by by_cases e : b = 10; rw [if_pos e] at her; omega; rw [if_neg e] at her; omega)
            clear hec her hl1 hl2 hr1 hr2 hpv hgp
            go_enter Tryd.func12, Tryd.ntmps12
            go_wp2_with fail
            go_quiet (fail)
            go_wp2_with fail
            go_ret2
            exact ⟨end_ret' HK.out HV.out rfl, below_drewN (Below.refl _ _) _⟩
          · obtain ⟨j, rfl⟩ : ∃ j, i = j + 1 := ⟨i - 1, by omega⟩
            have hgj := hgp j (by omega)
            have hpj := hpv j rfl
            obtain ⟨p, hp⟩ : ∃ b, by' (bs s) j = b := ⟨_, rfl⟩
            rw [hpj, hp] at hec
            rw [hp] at hgj
            have hj0 : (0 : Int) ≤ (j : Int) := by omega
            have hjj : (j : Int) < (s.size : Int) := by omega
            have hjs : j < s.size := by omega
            have hjz : (((j : Nat) : Int) + 1 == 0) = false := beq_eq_false_iff_ne.2 (by omega)
            clear hp hpj
            by_cases g13 : p = 13
            · have qp : (((p : Nat) : Int) != 13) = false := by simp; omega
              have HV := Lib.hid (show ex = 0 by omega)
              have HK := Lib.hid (show (1 : Int) = (k : Nat) by by_cases e : b = 10; rw [if_pos e] at her; omega; rw [if_neg e] at her; omega)
              clear hec her hl1 hl2 hr1 hr2 hpv hgp
              go_enter Tryd.func12, Tryd.ntmps12
              go_wp2_with fail
              go_quiet (fail)
              go_wp2_with fail
              go_ret2
              exact ⟨end_ret' HK.out HV.out rfl, below_drewN (Below.refl _ _) _⟩
            · have qp : (((p : Nat) : Int) != 13) = true := bne_iff_ne.2 (by omega)
              have HV := Lib.hid (show ex = 1 by omega)
              have HK := Lib.hid (show (1 : Int) = (k : Nat) by by_cases e : b = 10; rw [if_pos e] at her; omega; rw [if_neg e] at her; omega)
              clear hec her hl1 hl2 hr1 hr2 hpv hgp
              go_enter Tryd.func12, Tryd.ntmps12
              go_wp2_with fail
              go_quiet (fail)
              go_wp2_with fail
              go_ret2
              exact ⟨end_ret' HK.out HV.out rfl, below_drewN (Below.refl _ _) _⟩
      by_cases e194 : b = 194
      · have qb13 : (((b : Nat) : Int) == 13) = false := beq_eq_false_iff_ne.2 (by omega)
        have qb10 : (((b : Nat) : Int) == 10) = false := beq_eq_false_iff_ne.2 (by omega)
        have qb194 : (((b : Nat) : Int) == 194) = true := beq_iff_eq.2 (by omega)
        have qb226 : (((b : Nat) : Int) == 226) = false := beq_eq_false_iff_ne.2 (by omega)
        by_cases hz1 : 1 < R.size
        · have hz1i : (1 : Int) < (R.size : Int) := by omega
          have hz1d : decide (1 < R.size) = true := decide_eq_true hz1
          have hg1 := hr1 hz1
          by_cases hz2 : 2 < R.size
          · have hz2i : (2 : Int) < (R.size : Int) := by omega
            have hz2d : decide (2 < R.size) = true := decide_eq_true hz2
            have hg2 := hr2 hz2
            by_cases f133 : b1 = 133
            · have qb1133 : (((b1 : Nat) : Int) == 133) = true := beq_iff_eq.2 (by omega)
              have HV := Lib.hid (show ex = 2 by omega)
              have HK := Lib.hid (show (2 : Int) = (k : Nat) by by_cases e : b = 10; rw [if_pos e] at her; omega; rw [if_neg e] at her; omega)
              clear hec her hl1 hl2 hr1 hr2 hpv hgp
              go_enter Tryd.func12, Tryd.ntmps12
              go_wp2_with fail
              go_ret2
              exact ⟨end_ret' HK.out HV.out rfl, Below.refl _ _⟩
            · have qb1133 : (((b1 : Nat) : Int) == 133) = false := beq_eq_false_iff_ne.2 (by omega)
              have HV := Lib.hid (show ex = 0 by omega)
              have HK := Lib.hid (show (0 : Int) = (k : Nat) by by_cases e : b = 10; rw [if_pos e] at her; omega; rw [if_neg e] at her; omega)
              clear hec her hl1 hl2 hr1 hr2 hpv hgp
              go_enter Tryd.func12, Tryd.ntmps12
              go_wp2_with fail
              go_ret2
              exact ⟨end_ret' HK.out HV.out rfl, Below.refl _ _⟩
          · have hz2i : (R.size : Int) ≤ 2 := by omega
            have hz2d : decide (2 < R.size) = false := decide_eq_false hz2
            by_cases f133 : b1 = 133
            · have qb1133 : (((b1 : Nat) : Int) == 133) = true := beq_iff_eq.2 (by omega)
              have HV := Lib.hid (show ex = 2 by omega)
              have HK := Lib.hid (show (2 : Int) = (k : Nat) by by_cases e : b = 10; rw [if_pos e] at her; omega; rw [if_neg e] at her; omega)
              clear hec her hl1 hl2 hr1 hr2 hpv hgp
              go_enter Tryd.func12, Tryd.ntmps12
              go_wp2_with fail
              go_ret2
              exact ⟨end_ret' HK.out HV.out rfl, Below.refl _ _⟩
            · have qb1133 : (((b1 : Nat) : Int) == 133) = false := beq_eq_false_iff_ne.2 (by omega)
              have HV := Lib.hid (show ex = 0 by omega)
              have HK := Lib.hid (show (0 : Int) = (k : Nat) by by_cases e : b = 10; rw [if_pos e] at her; omega; rw [if_neg e] at her; omega)
              clear hec her hl1 hl2 hr1 hr2 hpv hgp
              go_enter Tryd.func12, Tryd.ntmps12
              go_wp2_with fail
              go_ret2
              exact ⟨end_ret' HK.out HV.out rfl, Below.refl _ _⟩
        · have hz1i : (R.size : Int) ≤ 1 := by omega
          have hz1d : decide (1 < R.size) = false := decide_eq_false hz1
          have hz2i : (R.size : Int) ≤ 2 := by omega
          have hz2d : decide (2 < R.size) = false := decide_eq_false (by omega)
          have zb1 : b1 = 0 := by rcases Nat.eq_zero_or_pos b1 with h | h; exact h; exact absurd (hl1 (by omega)) (by omega)
          have HV := Lib.hid (show ex = 0 by omega)
          have HK := Lib.hid (show (0 : Int) = (k : Nat) by by_cases e : b = 10; rw [if_pos e] at her; omega; rw [if_neg e] at her; omega)
          clear hec her hl1 hl2 hr1 hr2 hpv hgp
          go_enter Tryd.func12, Tryd.ntmps12
          go_wp2_with fail
          go_ret2
          exact ⟨end_ret' HK.out HV.out rfl, Below.refl _ _⟩
      by_cases e226 : b = 226
      · have qb13 : (((b : Nat) : Int) == 13) = false := beq_eq_false_iff_ne.2 (by omega)
        have qb10 : (((b : Nat) : Int) == 10) = false := beq_eq_false_iff_ne.2 (by omega)
        have qb194 : (((b : Nat) : Int) == 194) = false := beq_eq_false_iff_ne.2 (by omega)
        have qb226 : (((b : Nat) : Int) == 226) = true := beq_iff_eq.2 (by omega)
        by_cases hz1 : 1 < R.size
        · have hz1i : (1 : Int) < (R.size : Int) := by omega
          have hz1d : decide (1 < R.size) = true := decide_eq_true hz1
          have hg1 := hr1 hz1
          by_cases hz2 : 2 < R.size
          · have hz2i : (2 : Int) < (R.size : Int) := by omega
            have hz2d : decide (2 < R.size) = true := decide_eq_true hz2
            have hg2 := hr2 hz2
            by_cases f128 : b1 = 128
            · have qb1128 : (((b1 : Nat) : Int) == 128) = true := beq_iff_eq.2 (by omega)
              by_cases g168 : b2 = 168
              · have qb2168 : (((b2 : Nat) : Int) == 168) = true := beq_iff_eq.2 (by omega)
                have qb2169 : (((b2 : Nat) : Int) == 169) = false := beq_eq_false_iff_ne.2 (by omega)
                have HV := Lib.hid (show ex = 3 by omega)
                have HK := Lib.hid (show (3 : Int) = (k : Nat) by by_cases e : b = 10; rw [if_pos e] at her; omega; rw [if_neg e] at her; omega)
                clear hec her hl1 hl2 hr1 hr2 hpv hgp
                go_enter Tryd.func12, Tryd.ntmps12
                go_wp2_with fail
                go_ret2
                exact ⟨end_ret' HK.out HV.out rfl, Below.refl _ _⟩
              · have qb2168 : (((b2 : Nat) : Int) == 168) = false := beq_eq_false_iff_ne.2 (by omega)
                by_cases g169 : b2 = 169
                · have qb2169 : (((b2 : Nat) : Int) == 169) = true := beq_iff_eq.2 (by omega)
                  have HV := Lib.hid (show ex = 3 by omega)
                  have HK := Lib.hid (show (3 : Int) = (k : Nat) by by_cases e : b = 10; rw [if_pos e] at her; omega; rw [if_neg e] at her; omega)
                  clear hec her hl1 hl2 hr1 hr2 hpv hgp
                  go_enter Tryd.func12, Tryd.ntmps12
                  go_wp2_with fail
                  go_ret2
                  exact ⟨end_ret' HK.out HV.out rfl, Below.refl _ _⟩
                · have qb2169 : (((b2 : Nat) : Int) == 169) = false := beq_eq_false_iff_ne.2 (by omega)
                  have HV := Lib.hid (show ex = 0 by omega)
                  have HK := Lib.hid (show (0 : Int) = (k : Nat) by by_cases e : b = 10; rw [if_pos e] at her; omega; rw [if_neg e] at her; omega)
                  clear hec her hl1 hl2 hr1 hr2 hpv hgp
                  go_enter Tryd.func12, Tryd.ntmps12
                  go_wp2_with fail
                  go_ret2
                  exact ⟨end_ret' HK.out HV.out rfl, Below.refl _ _⟩
            · have qb1128 : (((b1 : Nat) : Int) == 128) = false := beq_eq_false_iff_ne.2 (by omega)
              have HV := Lib.hid (show ex = 0 by omega)
              have HK := Lib.hid (show (0 : Int) = (k : Nat) by by_cases e : b = 10; rw [if_pos e] at her; omega; rw [if_neg e] at her; omega)
              clear hec her hl1 hl2 hr1 hr2 hpv hgp
              go_enter Tryd.func12, Tryd.ntmps12
              go_wp2_with fail
              go_ret2
              exact ⟨end_ret' HK.out HV.out rfl, Below.refl _ _⟩
          · have hz2i : (R.size : Int) ≤ 2 := by omega
            have hz2d : decide (2 < R.size) = false := decide_eq_false hz2
            have zb2 : b2 = 0 := by rcases Nat.eq_zero_or_pos b2 with h | h; exact h; exact absurd (hl2 (by omega)) (by omega)
            have HV := Lib.hid (show ex = 0 by omega)
            have HK := Lib.hid (show (0 : Int) = (k : Nat) by by_cases e : b = 10; rw [if_pos e] at her; omega; rw [if_neg e] at her; omega)
            clear hec her hl1 hl2 hr1 hr2 hpv hgp
            go_enter Tryd.func12, Tryd.ntmps12
            go_wp2_with fail
            go_ret2
            exact ⟨end_ret' HK.out HV.out rfl, Below.refl _ _⟩
        · have hz1i : (R.size : Int) ≤ 1 := by omega
          have hz1d : decide (1 < R.size) = false := decide_eq_false hz1
          have hz2i : (R.size : Int) ≤ 2 := by omega
          have hz2d : decide (2 < R.size) = false := decide_eq_false (by omega)
          have zb2 : b2 = 0 := by rcases Nat.eq_zero_or_pos b2 with h | h; exact h; exact absurd (hl2 (by omega)) (by omega)
          have HV := Lib.hid (show ex = 0 by omega)
          have HK := Lib.hid (show (0 : Int) = (k : Nat) by by_cases e : b = 10; rw [if_pos e] at her; omega; rw [if_neg e] at her; omega)
          clear hec her hl1 hl2 hr1 hr2 hpv hgp
          go_enter Tryd.func12, Tryd.ntmps12
          go_wp2_with fail
          go_ret2
          exact ⟨end_ret' HK.out HV.out rfl, Below.refl _ _⟩
      · have qb13 : (((b : Nat) : Int) == 13) = false := beq_eq_false_iff_ne.2 (by omega)
        have qb10 : (((b : Nat) : Int) == 10) = false := beq_eq_false_iff_ne.2 (by omega)
        have qb194 : (((b : Nat) : Int) == 194) = false := beq_eq_false_iff_ne.2 (by omega)
        have qb226 : (((b : Nat) : Int) == 226) = false := beq_eq_false_iff_ne.2 (by omega)
        by_cases hz1 : 1 < R.size
        · have hz1i : (1 : Int) < (R.size : Int) := by omega
          have hz1d : decide (1 < R.size) = true := decide_eq_true hz1
          have hg1 := hr1 hz1
          by_cases hz2 : 2 < R.size
          · have hz2i : (2 : Int) < (R.size : Int) := by omega
            have hz2d : decide (2 < R.size) = true := decide_eq_true hz2
            have hg2 := hr2 hz2
            have HV := Lib.hid (show ex = 0 by omega)
            have HK := Lib.hid (show (0 : Int) = (k : Nat) by by_cases e : b = 10; rw [if_pos e] at her; omega; rw [if_neg e] at her; omega)
            clear hec her hl1 hl2 hr1 hr2 hpv hgp
            go_enter Tryd.func12, Tryd.ntmps12
            go_wp2_with fail
            go_ret2
            exact ⟨end_ret' HK.out HV.out rfl, Below.refl _ _⟩
          · have hz2i : (R.size : Int) ≤ 2 := by omega
            have hz2d : decide (2 < R.size) = false := decide_eq_false hz2
            have HV := Lib.hid (show ex = 0 by omega)
            have HK := Lib.hid (show (0 : Int) = (k : Nat) by by_cases e : b = 10; rw [if_pos e] at her; omega; rw [if_neg e] at her; omega)
            clear hec her hl1 hl2 hr1 hr2 hpv hgp
            go_enter Tryd.func12, Tryd.ntmps12
            go_wp2_with fail
            go_ret2
            exact ⟨end_ret' HK.out HV.out rfl, Below.refl _ _⟩
        · have hz1i : (R.size : Int) ≤ 1 := by omega
          have hz1d : decide (1 < R.size) = false := decide_eq_false hz1
          have hz2i : (R.size : Int) ≤ 2 := by omega
          have hz2d : decide (2 < R.size) = false := decide_eq_false (by omega)
          have HV := Lib.hid (show ex = 0 by omega)
          have HK := Lib.hid (show (0 : Int) = (k : Nat) by by_cases e : b = 10; rw [if_pos e] at her; omega; rw [if_neg e] at her; omega)
          clear hec her hl1 hl2 hr1 hr2 hpv hgp
          go_enter Tryd.func12, Tryd.ntmps12
          go_wp2_with fail
          go_ret2
          exact ⟨end_ret' HK.out HV.out rfl, Below.refl _ _⟩
end Go.Proofs.YtebmjmohhpkonaaDoor

