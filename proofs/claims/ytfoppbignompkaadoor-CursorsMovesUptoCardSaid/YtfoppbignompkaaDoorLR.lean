/-
  The document's first, chars and Where: their contracts.
-/
import Derived.Test.YtfoppbignompkaaDoorLEnd
import Derived.Test.YtfoppbignompkaaDoorIter
import Derived.Test.YtfoppbignompkaaDoorLBackLaw
import Derived.Test.YtfoppbignompkaaDoorBox
import Derived.Deep.RegionHeldLaw
import Derived.BigQuiet
namespace Go.Proofs.YtfoppbignompkaaDoor
open Go.RowKit

/-- the width that the document's End hands back (where none ends, too) -/
def endR (l : Bs) (i : Nat) : Nat := if by' l i = 10 then 1 else endN l i
def endRZ (l : Bs) (c : Int) : Nat := if c < 0 ∨ (l.length : Int) ≤ c then 0 else endR l c.toNat
theorem endRZ_nat {l : Bs} {i : Nat} (h : i < l.length) : endRZ l (i : Nat) = endR l i := if_neg (by omega)
theorem endRZ_out {l : Bs} {c : Int} (h : c < 0 ∨ (l.length : Int) ≤ c) : endRZ l c = 0 := if_pos h
theorem endR_yes {l : Bs} {i : Nat} (h : endN l i ≠ 0) : endR l i = endN l i := by
  unfold endR
  by_cases a : by' l i = 10
  · rw [if_pos a]
    rcases end_cases l i with h1 | h1 | h1 | h1 | h1 | h1 | h1 <;> omega
  · rw [if_neg a]
theorem end_ret' {k m : Nat} {n : Nat} {v : Int} {b : Bool} (h : v = (k : Nat)) (h2 : m = n) (hb : nzB n = b) : Ending.returned (.tuple #[.int .i64 v, .bool b]) = .returned (.tuple #[.int .i64 (k : Nat), .bool (nzB m)]) := by rw [h, h2, hb]

set_option maxHeartbeats 8000000 in
theorem refend_any (s : ByteArray) (hs : s.size ≤ 140737488351232) (c : Int) (w : World) :
    Calls Tryd.prog 98 #[.string s, .int .i64 c] w fun e w' => e = .returned (.tuple #[.int .i64 (endRZ (bs s) c : Nat), .bool (nzB (endZ (bs s) c))]) ∧ Below w.heap.size w w' := by
  by_cases h0 : c < 0
  · have HV := Lib.hid (endZ_neg (bs s) c h0)
    have HK := Lib.hid (show (0 : Int) = (endRZ (bs s) c : Nat) by rw [endRZ_out (.inl h0)]; rfl)
    go_enter Tryd.func98, Tryd.ntmps98
    go_wp2_with fail
    go_ret2
    exact ⟨end_ret' HK.out HV.out rfl, Below.refl _ _⟩
  · by_cases h1 : (s.size : Int) ≤ c
    · have HV := Lib.hid (endZ_out (bs s) c (by rw [← size_bs]; exact h1))
      have HK := Lib.hid (show (0 : Int) = (endRZ (bs s) c : Nat) by rw [endRZ_out (.inr (by rw [← size_bs]; exact h1))]; rfl)
      go_enter Tryd.func98, Tryd.ntmps98
      go_wp2_with fail
      go_ret2
      exact ⟨end_ret' HK.out HV.out rfl, Below.refl _ _⟩
    · obtain ⟨i, rfl⟩ : ∃ i : Nat, c = i := ⟨c.toNat, by omega⟩
      have hi : i < s.size := by omega
      have hi0 : (0 : Int) ≤ (i : Int) := by omega
      have hii : (i : Int) < (s.size : Int) := by omega
      have hd1 : decide (s.size ≤ i) = false := decide_eq_false (by omega)
      rw [endZ_nat, endRZ_nat (by rw [← size_bs]; exact hi)]
      have hec := end_cases (bs s) i
      have her : endR (bs s) i = if by' (bs s) i = 10 then 1 else endN (bs s) i := rfl
      have hR : bs (s.extract i s.size) = (bs s).drop i := bs_drop s i
      have hRz : (s.extract i s.size).size = s.size - i := by rw [ByteArray.size_extract]; omega
      obtain ⟨R, hRR⟩ : ∃ R, s.extract i s.size = R := ⟨_, rfl⟩
      rw [hRR] at hR hRz
      have hr0 := fun h => get_bs R 0 h
      have hr1 := fun h => get_bs R 1 h
      have hr2 := fun h => get_bs R 2 h
      rw [hR, by_drop, Nat.add_zero] at hr0
      rw [hR, by_drop] at hr1
      rw [hR, by_drop] at hr2
      have hl1 : by' (bs s) (i + 1) ≠ 0 → 1 < R.size := fun h => by have := by_len h; rw [← size_bs] at this; omega
      have hl2 : by' (bs s) (i + 2) ≠ 0 → 2 < R.size := fun h => by have := by_len h; rw [← size_bs] at this; omega
      have hpv : ∀ j, i = j + 1 → by' (bs s) (i - 1) = by' (bs s) j := fun j e => by rw [e, Nat.add_sub_cancel]
      have hgp : ∀ j (hj : j < s.size), (s[j]'hj).toNat = by' (bs s) j := fun j hj => get_bs s j hj
      obtain ⟨ex, hx⟩ : ∃ e, endN (bs s) i = e := ⟨_, rfl⟩
      obtain ⟨k, hk⟩ : ∃ e, endR (bs s) i = e := ⟨_, rfl⟩
      obtain ⟨b, hb⟩ : ∃ b, by' (bs s) i = b := ⟨_, rfl⟩
      obtain ⟨b1, hb1⟩ : ∃ b, by' (bs s) (i + 1) = b := ⟨_, rfl⟩
      obtain ⟨b2, hb2⟩ : ∃ b, by' (bs s) (i + 2) = b := ⟨_, rfl⟩
      rw [hx] at hec her ⊢
      rw [hk] at her ⊢
      rw [hb] at hec her hr0
      rw [hb1] at hec hr1 hl1
      rw [hb2] at hec hr2 hl2
      have hn1 : 1 ≤ R.size := by omega
      have hn0 : 0 < R.size := hn1
      have hg0 := hr0 hn0
      have hs1 : s.size - i = R.size := hRz.symm
      have hRb : R.size ≤ 140737488351232 := by omega
      clear hR hRz hx hk hb hb1 hb2 h0 h1 hr0
      by_cases e13 : b = 13
      · have qb13 : (((b : Nat) : Int) == 13) = true := beq_iff_eq.2 (by omega)
        have qb10 : (((b : Nat) : Int) == 10) = false := beq_eq_false_iff_ne.2 (by omega)
        have qb194 : (((b : Nat) : Int) == 194) = false := beq_eq_false_iff_ne.2 (by omega)
        have qb226 : (((b : Nat) : Int) == 226) = false := beq_eq_false_iff_ne.2 (by omega)
        by_cases hz1 : 1 < R.size
        · have hz1i : (1 : Int) < (R.size : Int) := by omega
          have hz1d : decide (1 < R.size) = true := decide_eq_true hz1
          have hg1 := hr1 hz1
          by_cases hz2 : 2 < R.size
          · have hz2i : (2 : Int) < (R.size : Int) := by omega
            have hz2d : decide (2 < R.size) = true := decide_eq_true hz2
            have hg2 := hr2 hz2
            by_cases f10 : b1 = 10
            · have qb110 : (((b1 : Nat) : Int) == 10) = true := beq_iff_eq.2 (by omega)
              have HV := Lib.hid (show ex = 2 by omega)
              have HK := Lib.hid (show (2 : Int) = (k : Nat) by by_cases e : b = 10; rw [if_pos e] at her; omega; rw [if_neg e] at her; omega)
              clear hec her hl1 hl2 hr1 hr2 hpv hgp
              go_enter Tryd.func98, Tryd.ntmps98
              go_wp2_with fail
              go_ret2
              exact ⟨end_ret' HK.out HV.out rfl, Below.refl _ _⟩
            · have qb110 : (((b1 : Nat) : Int) == 10) = false := beq_eq_false_iff_ne.2 (by omega)
              have HV := Lib.hid (show ex = 1 by omega)
              have HK := Lib.hid (show (1 : Int) = (k : Nat) by by_cases e : b = 10; rw [if_pos e] at her; omega; rw [if_neg e] at her; omega)
              clear hec her hl1 hl2 hr1 hr2 hpv hgp
              go_enter Tryd.func98, Tryd.ntmps98
              go_wp2_with fail
              go_ret2
              exact ⟨end_ret' HK.out HV.out rfl, Below.refl _ _⟩
          · have hz2i : (R.size : Int) ≤ 2 := by omega
            have hz2d : decide (2 < R.size) = false := decide_eq_false hz2
            by_cases f10 : b1 = 10
            · have qb110 : (((b1 : Nat) : Int) == 10) = true := beq_iff_eq.2 (by omega)
              have HV := Lib.hid (show ex = 2 by omega)
              have HK := Lib.hid (show (2 : Int) = (k : Nat) by by_cases e : b = 10; rw [if_pos e] at her; omega; rw [if_neg e] at her; omega)
              clear hec her hl1 hl2 hr1 hr2 hpv hgp
              go_enter Tryd.func98, Tryd.ntmps98
              go_wp2_with fail
              go_ret2
              exact ⟨end_ret' HK.out HV.out rfl, Below.refl _ _⟩
            · have qb110 : (((b1 : Nat) : Int) == 10) = false := beq_eq_false_iff_ne.2 (by omega)
              have HV := Lib.hid (show ex = 1 by omega)
              have HK := Lib.hid (show (1 : Int) = (k : Nat) by by_cases e : b = 10; rw [if_pos e] at her; omega; rw [if_neg e] at her; omega)
              clear hec her hl1 hl2 hr1 hr2 hpv hgp
              go_enter Tryd.func98, Tryd.ntmps98
              go_wp2_with fail
              go_ret2
              exact ⟨end_ret' HK.out HV.out rfl, Below.refl _ _⟩
        · have hz1i : (R.size : Int) ≤ 1 := by omega
          have hz1d : decide (1 < R.size) = false := decide_eq_false hz1
          have hz2i : (R.size : Int) ≤ 2 := by omega
          have hz2d : decide (2 < R.size) = false := decide_eq_false (by omega)
          have zb1 : b1 = 0 := by rcases Nat.eq_zero_or_pos b1 with h | h; exact h; exact absurd (hl1 (by omega)) (by omega)
          have HV := Lib.hid (show ex = 1 by omega)
          have HK := Lib.hid (show (1 : Int) = (k : Nat) by by_cases e : b = 10; rw [if_pos e] at her; omega; rw [if_neg e] at her; omega)
          clear hec her hl1 hl2 hr1 hr2 hpv hgp
          go_enter Tryd.func98, Tryd.ntmps98
          go_wp2_with fail
          go_ret2
          exact ⟨end_ret' HK.out HV.out rfl, Below.refl _ _⟩
      by_cases e10 : b = 10
      · have qb13 : (((b : Nat) : Int) == 13) = false := beq_eq_false_iff_ne.2 (by omega)
        have qb10 : (((b : Nat) : Int) == 10) = true := beq_iff_eq.2 (by omega)
        have qb194 : (((b : Nat) : Int) == 194) = false := beq_eq_false_iff_ne.2 (by omega)
        have qb226 : (((b : Nat) : Int) == 226) = false := beq_eq_false_iff_ne.2 (by omega)
        by_cases hz1 : 1 < R.size
        · have hz1i : (1 : Int) < (R.size : Int) := by omega
          have hz1d : decide (1 < R.size) = true := decide_eq_true hz1
          have hg1 := hr1 hz1
          by_cases hz2 : 2 < R.size
          · have hz2i : (2 : Int) < (R.size : Int) := by omega
            have hz2d : decide (2 < R.size) = true := decide_eq_true hz2
            have hg2 := hr2 hz2
            by_cases hi : i = 0
            · subst hi
              have hse : ¬ s = ByteArray.empty := by intro e; subst e; simp at hii
              have HV := Lib.hid (show ex = 1 by omega)
              have HK := Lib.hid (show (1 : Int) = (k : Nat) by by_cases e : b = 10; rw [if_pos e] at her; omega; rw [if_neg e] at her; omega)
              clear hec her hl1 hl2 hr1 hr2 hpv hgp
              go_enter Tryd.func98, Tryd.ntmps98
              go_wp2_with fail
              go_quiet (fail)
              go_wp2_with fail
              go_ret2
              exact ⟨end_ret' HK.out HV.out rfl, below_drewN (Below.refl _ _) _⟩
            · obtain ⟨j, rfl⟩ : ∃ j, i = j + 1 := ⟨i - 1, by omega⟩
              have hgj := hgp j (by omega)
              have hpj := hpv j rfl
              obtain ⟨p, hp⟩ : ∃ b, by' (bs s) j = b := ⟨_, rfl⟩
              rw [hpj, hp] at hec
              rw [hp] at hgj
              have hj0 : (0 : Int) ≤ (j : Int) := by omega
              have hjj : (j : Int) < (s.size : Int) := by omega
              have hjs : j < s.size := by omega
              have hjz : (((j : Nat) : Int) + 1 == 0) = false := beq_eq_false_iff_ne.2 (by omega)
              clear hp hpj
              by_cases g13 : p = 13
              · have qp : (((p : Nat) : Int) != 13) = false := by simp; omega
                have HV := Lib.hid (show ex = 0 by omega)
                have HK := Lib.hid (show (1 : Int) = (k : Nat) by by_cases e : b = 10; rw [if_pos e] at her; omega; rw [if_neg e] at her; omega)
                clear hec her hl1 hl2 hr1 hr2 hpv hgp
                go_enter Tryd.func98, Tryd.ntmps98
                go_wp2_with fail
                go_quiet (fail)
                go_wp2_with fail
                go_ret2
                exact ⟨end_ret' HK.out HV.out rfl, below_drewN (Below.refl _ _) _⟩
              · have qp : (((p : Nat) : Int) != 13) = true := bne_iff_ne.2 (by omega)
                have HV := Lib.hid (show ex = 1 by omega)
                have HK := Lib.hid (show (1 : Int) = (k : Nat) by by_cases e : b = 10; rw [if_pos e] at her; omega; rw [if_neg e] at her; omega)
                clear hec her hl1 hl2 hr1 hr2 hpv hgp
                go_enter Tryd.func98, Tryd.ntmps98
                go_wp2_with fail
                go_quiet (fail)
                go_wp2_with fail
                go_ret2
                exact ⟨end_ret' HK.out HV.out rfl, below_drewN (Below.refl _ _) _⟩
          · have hz2i : (R.size : Int) ≤ 2 := by omega
            have hz2d : decide (2 < R.size) = false := decide_eq_false hz2
            by_cases hi : i = 0
            · subst hi
              have hse : ¬ s = ByteArray.empty := by intro e; subst e; simp at hii
              have HV := Lib.hid (show ex = 1 by omega)
              have HK := Lib.hid (show (1 : Int) = (k : Nat) by by_cases e : b = 10; rw [if_pos e] at her; omega; rw [if_neg e] at her; omega)
              clear hec her hl1 hl2 hr1 hr2 hpv hgp
              go_enter Tryd.func98, Tryd.ntmps98
              go_wp2_with fail
              go_quiet (fail)
              go_wp2_with fail
              go_ret2
              exact ⟨end_ret' HK.out HV.out rfl, below_drewN (Below.refl _ _) _⟩
            · obtain ⟨j, rfl⟩ : ∃ j, i = j + 1 := ⟨i - 1, by omega⟩
              have hgj := hgp j (by omega)
              have hpj := hpv j rfl
              obtain ⟨p, hp⟩ : ∃ b, by' (bs s) j = b := ⟨_, rfl⟩
              rw [hpj, hp] at hec
              rw [hp] at hgj
              have hj0 : (0 : Int) ≤ (j : Int) := by omega
              have hjj : (j : Int) < (s.size : Int) := by omega
              have hjs : j < s.size := by omega
              have hjz : (((j : Nat) : Int) + 1 == 0) = false := beq_eq_false_iff_ne.2 (by omega)
              clear hp hpj
              by_cases g13 : p = 13
              · have qp : (((p : Nat) : Int) != 13) = false := by simp; omega
                have HV := Lib.hid (show ex = 0 by omega)
                have HK := Lib.hid (show (1 : Int) = (k : Nat) by by_cases e : b = 10; rw [if_pos e] at her; omega; rw [if_neg e] at her; omega)
                clear hec her hl1 hl2 hr1 hr2 hpv hgp
                go_enter Tryd.func98, Tryd.ntmps98
                go_wp2_with fail
                go_quiet (fail)
                go_wp2_with fail
                go_ret2
                exact ⟨end_ret' HK.out HV.out rfl, below_drewN (Below.refl _ _) _⟩
              · have qp : (((p : Nat) : Int) != 13) = true := bne_iff_ne.2 (by omega)
                have HV := Lib.hid (show ex = 1 by omega)
                have HK := Lib.hid (show (1 : Int) = (k : Nat) by by_cases e : b = 10; rw [if_pos e] at her; omega; rw [if_neg e] at her; omega)
                clear hec her hl1 hl2 hr1 hr2 hpv hgp
                go_enter Tryd.func98, Tryd.ntmps98
                go_wp2_with fail
                go_quiet (fail)
                go_wp2_with fail
                go_ret2
                exact ⟨end_ret' HK.out HV.out rfl, below_drewN (Below.refl _ _) _⟩
        · have hz1i : (R.size : Int) ≤ 1 := by omega
          have hz1d : decide (1 < R.size) = false := decide_eq_false hz1
          have hz2i : (R.size : Int) ≤ 2 := by omega
          have hz2d : decide (2 < R.size) = false := decide_eq_false (by omega)
          by_cases hi : i = 0
          · subst hi
            have hse : ¬ s = ByteArray.empty := by intro e; subst e; simp at hii
            have HV := Lib.hid (show ex = 1 by omega)
            have HK := Lib.hid (show (1 : Int) = (k : Nat) by by_cases e : b = 10; rw [if_pos e] at her; omega; rw [if_neg e] at her; omega)
            clear hec her hl1 hl2 hr1 hr2 hpv hgp
            go_enter Tryd.func98, Tryd.ntmps98
            go_wp2_with fail
            go_quiet (fail)
            go_wp2_with fail
            go_ret2
            exact ⟨end_ret' HK.out HV.out rfl, below_drewN (Below.refl _ _) _⟩
          · obtain ⟨j, rfl⟩ : ∃ j, i = j + 1 := ⟨i - 1, by omega⟩
            have hgj := hgp j (by omega)
            have hpj := hpv j rfl
            obtain ⟨p, hp⟩ : ∃ b, by' (bs s) j = b := ⟨_, rfl⟩
            rw [hpj, hp] at hec
            rw [hp] at hgj
            have hj0 : (0 : Int) ≤ (j : Int) := by omega
            have hjj : (j : Int) < (s.size : Int) := by omega
            have hjs : j < s.size := by omega
            have hjz : (((j : Nat) : Int) + 1 == 0) = false := beq_eq_false_iff_ne.2 (by omega)
            clear hp hpj
            by_cases g13 : p = 13
            · have qp : (((p : Nat) : Int) != 13) = false := by simp; omega
              have HV := Lib.hid (show ex = 0 by omega)
              have HK := Lib.hid (show (1 : Int) = (k : Nat) by by_cases e : b = 10; rw [if_pos e] at her; omega; rw [if_neg e] at her; omega)
              clear hec her hl1 hl2 hr1 hr2 hpv hgp
              go_enter Tryd.func98, Tryd.ntmps98
              go_wp2_with fail
              go_quiet (fail)
              go_wp2_with fail
              go_ret2
              exact ⟨end_ret' HK.out HV.out rfl, below_drewN (Below.refl _ _) _⟩
            · have qp : (((p : Nat) : Int) != 13) = true := bne_iff_ne.2 (by omega)
              have HV := Lib.hid (show ex = 1 by omega)
              have HK := Lib.hid (show (1 : Int) = (k : Nat) by by_cases e : b = 10; rw [if_pos e] at her; omega; rw [if_neg e] at her; omega)
              clear hec her hl1 hl2 hr1 hr2 hpv hgp
              go_enter Tryd.func98, Tryd.ntmps98
              go_wp2_with fail
              go_quiet (fail)
              go_wp2_with fail
              go_ret2
              exact ⟨end_ret' HK.out HV.out rfl, below_drewN (Below.refl _ _) _⟩
      by_cases e194 : b = 194
      · have qb13 : (((b : Nat) : Int) == 13) = false := beq_eq_false_iff_ne.2 (by omega)
        have qb10 : (((b : Nat) : Int) == 10) = false := beq_eq_false_iff_ne.2 (by omega)
        have qb194 : (((b : Nat) : Int) == 194) = true := beq_iff_eq.2 (by omega)
        have qb226 : (((b : Nat) : Int) == 226) = false := beq_eq_false_iff_ne.2 (by omega)
        by_cases hz1 : 1 < R.size
        · have hz1i : (1 : Int) < (R.size : Int) := by omega
          have hz1d : decide (1 < R.size) = true := decide_eq_true hz1
          have hg1 := hr1 hz1
          by_cases hz2 : 2 < R.size
          · have hz2i : (2 : Int) < (R.size : Int) := by omega
            have hz2d : decide (2 < R.size) = true := decide_eq_true hz2
            have hg2 := hr2 hz2
            by_cases f133 : b1 = 133
            · have qb1133 : (((b1 : Nat) : Int) == 133) = true := beq_iff_eq.2 (by omega)
              have HV := Lib.hid (show ex = 2 by omega)
              have HK := Lib.hid (show (2 : Int) = (k : Nat) by by_cases e : b = 10; rw [if_pos e] at her; omega; rw [if_neg e] at her; omega)
              clear hec her hl1 hl2 hr1 hr2 hpv hgp
              go_enter Tryd.func98, Tryd.ntmps98
              go_wp2_with fail
              go_ret2
              exact ⟨end_ret' HK.out HV.out rfl, Below.refl _ _⟩
            · have qb1133 : (((b1 : Nat) : Int) == 133) = false := beq_eq_false_iff_ne.2 (by omega)
              have HV := Lib.hid (show ex = 0 by omega)
              have HK := Lib.hid (show (0 : Int) = (k : Nat) by by_cases e : b = 10; rw [if_pos e] at her; omega; rw [if_neg e] at her; omega)
              clear hec her hl1 hl2 hr1 hr2 hpv hgp
              go_enter Tryd.func98, Tryd.ntmps98
              go_wp2_with fail
              go_ret2
              exact ⟨end_ret' HK.out HV.out rfl, Below.refl _ _⟩
          · have hz2i : (R.size : Int) ≤ 2 := by omega
            have hz2d : decide (2 < R.size) = false := decide_eq_false hz2
            by_cases f133 : b1 = 133
            · have qb1133 : (((b1 : Nat) : Int) == 133) = true := beq_iff_eq.2 (by omega)
              have HV := Lib.hid (show ex = 2 by omega)
              have HK := Lib.hid (show (2 : Int) = (k : Nat) by by_cases e : b = 10; rw [if_pos e] at her; omega; rw [if_neg e] at her; omega)
              clear hec her hl1 hl2 hr1 hr2 hpv hgp
              go_enter Tryd.func98, Tryd.ntmps98
              go_wp2_with fail
              go_ret2
              exact ⟨end_ret' HK.out HV.out rfl, Below.refl _ _⟩
            · have qb1133 : (((b1 : Nat) : Int) == 133) = false := beq_eq_false_iff_ne.2 (by omega)
              have HV := Lib.hid (show ex = 0 by omega)
              have HK := Lib.hid (show (0 : Int) = (k : Nat) by by_cases e : b = 10; rw [if_pos e] at her; omega; rw [if_neg e] at her; omega)
              clear hec her hl1 hl2 hr1 hr2 hpv hgp
              go_enter Tryd.func98, Tryd.ntmps98
              go_wp2_with fail
              go_ret2
              exact ⟨end_ret' HK.out HV.out rfl, Below.refl _ _⟩
        · have hz1i : (R.size : Int) ≤ 1 := by omega
          have hz1d : decide (1 < R.size) = false := decide_eq_false hz1
          have hz2i : (R.size : Int) ≤ 2 := by omega
          have hz2d : decide (2 < R.size) = false := decide_eq_false (by omega)
          have zb1 : b1 = 0 := by rcases Nat.eq_zero_or_pos b1 with h | h; exact h; exact absurd (hl1 (by omega)) (by omega)
          have HV := Lib.hid (show ex = 0 by omega)
          have HK := Lib.hid (show (0 : Int) = (k : Nat) by by_cases e : b = 10; rw [if_pos e] at her; omega; rw [if_neg e] at her; omega)
          clear hec her hl1 hl2 hr1 hr2 hpv hgp
          go_enter Tryd.func98, Tryd.ntmps98
          go_wp2_with fail
          go_ret2
          exact ⟨end_ret' HK.out HV.out rfl, Below.refl _ _⟩
      by_cases e226 : b = 226
      · have qb13 : (((b : Nat) : Int) == 13) = false := beq_eq_false_iff_ne.2 (by omega)
        have qb10 : (((b : Nat) : Int) == 10) = false := beq_eq_false_iff_ne.2 (by omega)
        have qb194 : (((b : Nat) : Int) == 194) = false := beq_eq_false_iff_ne.2 (by omega)
        have qb226 : (((b : Nat) : Int) == 226) = true := beq_iff_eq.2 (by omega)
        by_cases hz1 : 1 < R.size
        · have hz1i : (1 : Int) < (R.size : Int) := by omega
          have hz1d : decide (1 < R.size) = true := decide_eq_true hz1
          have hg1 := hr1 hz1
          by_cases hz2 : 2 < R.size
          · have hz2i : (2 : Int) < (R.size : Int) := by omega
            have hz2d : decide (2 < R.size) = true := decide_eq_true hz2
            have hg2 := hr2 hz2
            by_cases f128 : b1 = 128
            · have qb1128 : (((b1 : Nat) : Int) == 128) = true := beq_iff_eq.2 (by omega)
              by_cases g168 : b2 = 168
              · have qb2168 : (((b2 : Nat) : Int) == 168) = true := beq_iff_eq.2 (by omega)
                have qb2169 : (((b2 : Nat) : Int) == 169) = false := beq_eq_false_iff_ne.2 (by omega)
                have HV := Lib.hid (show ex = 3 by omega)
                have HK := Lib.hid (show (3 : Int) = (k : Nat) by by_cases e : b = 10; rw [if_pos e] at her; omega; rw [if_neg e] at her; omega)
                clear hec her hl1 hl2 hr1 hr2 hpv hgp
                go_enter Tryd.func98, Tryd.ntmps98
                go_wp2_with fail
                go_ret2
                exact ⟨end_ret' HK.out HV.out rfl, Below.refl _ _⟩
              · have qb2168 : (((b2 : Nat) : Int) == 168) = false := beq_eq_false_iff_ne.2 (by omega)
                by_cases g169 : b2 = 169
                · have qb2169 : (((b2 : Nat) : Int) == 169) = true := beq_iff_eq.2 (by omega)
                  have HV := Lib.hid (show ex = 3 by omega)
                  have HK := Lib.hid (show (3 : Int) = (k : Nat) by by_cases e : b = 10; rw [if_pos e] at her; omega; rw [if_neg e] at her; omega)
                  clear hec her hl1 hl2 hr1 hr2 hpv hgp
                  go_enter Tryd.func98, Tryd.ntmps98
                  go_wp2_with fail
                  go_ret2
                  exact ⟨end_ret' HK.out HV.out rfl, Below.refl _ _⟩
                · have qb2169 : (((b2 : Nat) : Int) == 169) = false := beq_eq_false_iff_ne.2 (by omega)
                  have HV := Lib.hid (show ex = 0 by omega)
                  have HK := Lib.hid (show (0 : Int) = (k : Nat) by by_cases e : b = 10; rw [if_pos e] at her; omega; rw [if_neg e] at her; omega)
                  clear hec her hl1 hl2 hr1 hr2 hpv hgp
                  go_enter Tryd.func98, Tryd.ntmps98
                  go_wp2_with fail
                  go_ret2
                  exact ⟨end_ret' HK.out HV.out rfl, Below.refl _ _⟩
            · have qb1128 : (((b1 : Nat) : Int) == 128) = false := beq_eq_false_iff_ne.2 (by omega)
              have HV := Lib.hid (show ex = 0 by omega)
              have HK := Lib.hid (show (0 : Int) = (k : Nat) by by_cases e : b = 10; rw [if_pos e] at her; omega; rw [if_neg e] at her; omega)
              clear hec her hl1 hl2 hr1 hr2 hpv hgp
              go_enter Tryd.func98, Tryd.ntmps98
              go_wp2_with fail
              go_ret2
              exact ⟨end_ret' HK.out HV.out rfl, Below.refl _ _⟩
          · have hz2i : (R.size : Int) ≤ 2 := by omega
            have hz2d : decide (2 < R.size) = false := decide_eq_false hz2
            have zb2 : b2 = 0 := by rcases Nat.eq_zero_or_pos b2 with h | h; exact h; exact absurd (hl2 (by omega)) (by omega)
            have HV := Lib.hid (show ex = 0 by omega)
            have HK := Lib.hid (show (0 : Int) = (k : Nat) by by_cases e : b = 10; rw [if_pos e] at her; omega; rw [if_neg e] at her; omega)
            clear hec her hl1 hl2 hr1 hr2 hpv hgp
            go_enter Tryd.func98, Tryd.ntmps98
            go_wp2_with fail
            go_ret2
            exact ⟨end_ret' HK.out HV.out rfl, Below.refl _ _⟩
        · have hz1i : (R.size : Int) ≤ 1 := by omega
          have hz1d : decide (1 < R.size) = false := decide_eq_false hz1
          have hz2i : (R.size : Int) ≤ 2 := by omega
          have hz2d : decide (2 < R.size) = false := decide_eq_false (by omega)
          have zb2 : b2 = 0 := by rcases Nat.eq_zero_or_pos b2 with h | h; exact h; exact absurd (hl2 (by omega)) (by omega)
          have HV := Lib.hid (show ex = 0 by omega)
          have HK := Lib.hid (show (0 : Int) = (k : Nat) by by_cases e : b = 10; rw [if_pos e] at her; omega; rw [if_neg e] at her; omega)
          clear hec her hl1 hl2 hr1 hr2 hpv hgp
          go_enter Tryd.func98, Tryd.ntmps98
          go_wp2_with fail
          go_ret2
          exact ⟨end_ret' HK.out HV.out rfl, Below.refl _ _⟩
      · have qb13 : (((b : Nat) : Int) == 13) = false := beq_eq_false_iff_ne.2 (by omega)
        have qb10 : (((b : Nat) : Int) == 10) = false := beq_eq_false_iff_ne.2 (by omega)
        have qb194 : (((b : Nat) : Int) == 194) = false := beq_eq_false_iff_ne.2 (by omega)
        have qb226 : (((b : Nat) : Int) == 226) = false := beq_eq_false_iff_ne.2 (by omega)
        by_cases hz1 : 1 < R.size
        · have hz1i : (1 : Int) < (R.size : Int) := by omega
          have hz1d : decide (1 < R.size) = true := decide_eq_true hz1
          have hg1 := hr1 hz1
          by_cases hz2 : 2 < R.size
          · have hz2i : (2 : Int) < (R.size : Int) := by omega
            have hz2d : decide (2 < R.size) = true := decide_eq_true hz2
            have hg2 := hr2 hz2
            have HV := Lib.hid (show ex = 0 by omega)
            have HK := Lib.hid (show (0 : Int) = (k : Nat) by by_cases e : b = 10; rw [if_pos e] at her; omega; rw [if_neg e] at her; omega)
            clear hec her hl1 hl2 hr1 hr2 hpv hgp
            go_enter Tryd.func98, Tryd.ntmps98
            go_wp2_with fail
            go_ret2
            exact ⟨end_ret' HK.out HV.out rfl, Below.refl _ _⟩
          · have hz2i : (R.size : Int) ≤ 2 := by omega
            have hz2d : decide (2 < R.size) = false := decide_eq_false hz2
            have HV := Lib.hid (show ex = 0 by omega)
            have HK := Lib.hid (show (0 : Int) = (k : Nat) by by_cases e : b = 10; rw [if_pos e] at her; omega; rw [if_neg e] at her; omega)
            clear hec her hl1 hl2 hr1 hr2 hpv hgp
            go_enter Tryd.func98, Tryd.ntmps98
            go_wp2_with fail
            go_ret2
            exact ⟨end_ret' HK.out HV.out rfl, Below.refl _ _⟩
        · have hz1i : (R.size : Int) ≤ 1 := by omega
          have hz1d : decide (1 < R.size) = false := decide_eq_false hz1
          have hz2i : (R.size : Int) ≤ 2 := by omega
          have hz2d : decide (2 < R.size) = false := decide_eq_false (by omega)
          have HV := Lib.hid (show ex = 0 by omega)
          have HK := Lib.hid (show (0 : Int) = (k : Nat) by by_cases e : b = 10; rw [if_pos e] at her; omega; rw [if_neg e] at her; omega)
          clear hec her hl1 hl2 hr1 hr2 hpv hgp
          go_enter Tryd.func98, Tryd.ntmps98
          go_wp2_with fail
          go_ret2
          exact ⟨end_ret' HK.out HV.out rfl, Below.refl _ _⟩
end Go.Proofs.YtfoppbignompkaaDoor

namespace Go.Proofs.YtfoppbignompkaaDoor
open Go.RowKit

theorem info_line : (Tryd.prog.info? 112).map (fun i => (i.zero, i.size, i.bytes)) = some (some (.agg #[.int .i64 0, .int .i64 0, .int .i64 0]), 3, 24) := by kernel_rfl

def lnCells (x : Nat × Nat × Nat) : List Value := [.int .i64 (x.1 : Nat), .int .i64 (x.2.1 : Nat), .int .i64 (x.2.2 : Nat)]
theorem lnCells_one (x : Nat × Nat × Nat) : ∀ u ∈ lnCells x, u.oneCell' = true := by
  intro u hu
  simp [lnCells] at hu
  rcases hu with rfl | rfl | rfl <;> rfl
theorem flatRow_at {α : Type} (f : α → List Value) (n : Nat) (hf : ∀ x, (f x).length = n) (L : List α) : ∀ (i j : Nat) (hi : i < L.length) (_ : j < n), (L.flatMap f)[i * n + j]? = (f L[i])[j]? := by
  induction L with
  | nil => intro i j hi; simp at hi
  | cons x L ih =>
    intro i j hi hj
    rw [List.flatMap_cons]
    cases i with
    | zero =>
      rw [List.getElem?_append_left (by rw [hf]; omega)]
      simp
    | succ i =>
      rw [List.getElem?_append_right (by rw [hf, Nat.succ_mul]; omega), hf]
      rw [show (i + 1) * n + j - n = i * n + j by rw [Nat.succ_mul]; omega]
      rw [ih i j (by simpa using hi) hj]
      rfl

set_option maxHeartbeats 4000000 in
theorem refall_any (s : ByteArray) (hs : s.size ≤ 1048576) (w : World) :
    Calls Tryd.prog 76 #[.string s] w fun e w' => ∃ v, e = .returned v ∧ w'.ownsRow w.heap.size 112 3 v (lnN (bs s)) ((linesL (bs s)).flatMap lnCells) ∧ Below w.heap.size w w' := by
  obtain ⟨i0, hi, hz0, hz1, hz2⟩ := info_parts info_line
  have HE := Lib.hid (fun c w => refend_any s (by omega) c w)
  have hNl := lnN_le (bs s)
  rw [← size_bs] at hNl
  obtain ⟨l, hl⟩ : ∃ l, bs s = l := ⟨_, rfl⟩
  have hlen : l.length = s.size := by rw [← hl, size_bs]
  rw [hl] at HE hNl ⊢
  have HLEN := Lib.hid hlen
  clear hl hlen
  go_enter Tryd.func76, Tryd.ntmps76
  go_wp2_with fail
  go_loopw [3, 4, 5] (fun v f i wr => ∃ (pre : List (Nat × Nat × Nat)) (f' i' : Nat), pre ++ lnRest l f' i' = linesL l ∧ f = .int .i64 (f' : Nat) ∧ i = .int .i64 (i' : Nat) ∧ i' ≤ s.size ∧ wr.ownsRow w.heap.size 112 3 v pre.length (pre.flatMap lnCells) ∧ Below w.heap.size w wr) (fun _ _ i _ => s.size - (intOf i).toNat)
  case atStart => exact ⟨[], 0, 0, rfl, rfl, rfl, Nat.zero_le _, World.ownsRow_nil _ _ _ _, Below.refl _ _⟩
  case round =>
    obtain ⟨pre, f', i', hpre, rfl, rfl, hi', hown, hb⟩ := hrel
    have hsz := hb.size
    by_cases hlt : i' < s.size
    · have hil : i' < l.length := by rw [HLEN.out]; exact hlt
      have hki : (i' : Int) < (s.size : Int) := by omega
      have HEE := Lib.hid (fun w => HE.out (i' : Nat) w)
      rw [endZ_nat, endRZ_nat hil] at HEE
      by_cases he : endN l i' = 0
      · rw [he, show nzB 0 = false from rfl] at HEE
        obtain ⟨k, hk⟩ : ∃ k, endR l i' = k := ⟨_, rfl⟩
        rw [hk] at HEE
        have HP := Lib.hid (show pre ++ lnRest l f' (i' + 1) = linesL l by rw [← ln_no hil he]; exact hpre)
        have HOWN := Lib.hid hown
        clear hil he hpre hk hown
        go_wp2_with (first | (go_at_call 98; (with_reducible refine (HEE.out _).mono ?_); rintro e w1 ⟨rfl, hb1⟩))
        exact ⟨⟨pre, f', i' + 1, HP.out, rfl, by go_num, hlt, owns_below HOWN.out hb1 (Nat.le_refl _), nx hb hb1⟩, by simp [intOf]; omega⟩
      · have hfit := end_fits he
        rw [HLEN.out] at hfit
        have hE := endR_yes he
        rw [hE] at HEE
        have hyes := ln_yes (f := f') he
        obtain ⟨x, hx⟩ : ∃ x, endN l i' = x := ⟨_, rfl⟩
        rw [hx] at HEE hfit hyes
        have hx1 : 1 ≤ x := by omega
        rw [show nzB x = true from bne_iff_ne.2 (by omega)] at HEE
        have HP := Lib.hid (show (pre ++ [(f', i', x)]) ++ lnRest l (i' + x) (i' + x) = linesL l by rw [List.append_assoc, ← hpre, hyes]; rfl)
        have hpl : pre.length < lnN l := by unfold lnN; rw [← hpre, hyes]; simp
        have hpl2 : pre.length ≤ 1048577 := by omega
        have HOWN := Lib.hid hown
        clear hil he hpre hE hyes hx hown hpl
        go_wp2_with (first
          | (go_at_call 98; (with_reducible refine (HEE.out _).mono ?_); rintro e w1 ⟨rfl, hb1⟩; have hown1 := owns_below HOWN.out hb1 (Nat.le_refl _); have hbb := nx hb hb1; have hszb := hbb.size)
          | (at_builtin; refine wpList_append_own _ rfl _ _ 108 rfl w.heap.size 112 i0 (.agg #[.int .i64 0, .int .i64 0, .int .i64 0]) 3 24 Tryd.underlying108 hi hz0 hz1 hz2 rfl (by decide) u3 _ _ rfl (hown1.alloc _) ⟨w1.heap.size, 0, none⟩ 1 1 (lnCells (f', i', x)) rfl (by simp [lnCells]) (cells_new _ _ _) (lnCells_one _) (by unfold maxLen; omega) (by omega) (by simp; omega) ?_; intro v' w2 hown' hgrow _))
        have hb3 : Below w.heap.size w w2 := (al hbb _).grown hgrow (by simp; omega) (fun q e => (hown1.lt q e).1)
        exact ⟨⟨pre ++ [(f', i', x)], i' + x, i' + x, HP.out, by go_num, by go_num, hfit, by rw [List.length_append, List.length_singleton, List.flatMap_append]; simpa using hown', hb3⟩, by simp [intOf]; omega⟩
    · obtain rfl : i' = s.size := by omega
      rw [ln_end (by rw [HLEN.out]; exact Nat.le_refl _), HLEN.out] at hpre
      have hpl : pre.length + 1 = lnN l := by unfold lnN; rw [← hpre]; simp
      have HP := Lib.hid hpre
      have HPL := Lib.hid hpl
      have hpl2 : pre.length ≤ 1048577 := by omega
      clear hpre hpl
      go_wp2_with (first
          | (at_builtin; refine wpList_append_own _ rfl _ _ 108 rfl w.heap.size 112 i0 (.agg #[.int .i64 0, .int .i64 0, .int .i64 0]) 3 24 Tryd.underlying108 hi hz0 hz1 hz2 rfl (by decide) u3 _ _ rfl (hown.alloc _) ⟨wr.heap.size, 0, none⟩ 1 1 (lnCells (f', s.size, 0)) rfl (by simp [lnCells]) (cells_new _ _ _) (lnCells_one _) (by unfold maxLen; omega) (by omega) (by simp; omega) ?_; intro v' w2 hown' hgrow _))
      have hb3 : Below w.heap.size w w2 := (al hb _).grown hgrow (by simp; omega) (fun q e => (hown.lt q e).1)
      go_ret
      refine ⟨_, rfl, ?_, hb3⟩
      rw [← HPL.out, ← HP.out, List.flatMap_append]
      simpa using hown'

/-- a row of lines that lies somewhere -/
def LinesAt (w : World) (ao : Option Addr) (l : Bs) : Prop :=
  ∀ k, k < lnN l → ∃ g, ao = some ⟨g, 0, none⟩ ∧ w.cell? ⟨g, k * 3, none⟩ = some (.int .i64 (lnA l k : Nat)) ∧ w.cell? ⟨g, k * 3 + 1, none⟩ = some (.int .i64 (lnB l k : Nat)) ∧ w.cell? ⟨g, k * 3 + 2, none⟩ = some (.int .i64 (lnE l k : Nat))
theorem LinesAt.below {w w' : World} {ao : Option Addr} {l : Bs} (h : LinesAt w ao l) {B : Nat} (hb : Below B w w') (hB : w.heap.size ≤ B) : LinesAt w' ao l := by
  intro i hi
  obtain ⟨g, e, h0, h1, h2⟩ := h i hi
  have hlt := World.block_lt_of_cell? w _ h0
  simp only at hlt
  exact ⟨g, e, (hb.cell (p := ⟨g, _, none⟩) (by show g < B; omega)).trans h0, (hb.cell (p := ⟨g, _, none⟩) (by show g < B; omega)).trans h1, (hb.cell (p := ⟨g, _, none⟩) (by show g < B; omega)).trans h2⟩
theorem LinesAt.owned {w : World} {base : Nat} {e : TypeId} {v : Value} {l : Bs} (h : w.ownsRow base e 3 v (lnN l) ((linesL l).flatMap lnCells)) : ∃ ao cap, v = .slice ao (lnN l) cap ∧ LinesAt w ao l := by
  rcases h.2 with ⟨rfl, h0⟩ | ⟨g, cap, cur, rfl, hg, hh, hn, hc, hs, ht⟩
  · have := lnN_pos l; omega
  · refine ⟨_, cap, rfl, fun i hi => ⟨g, rfl, ?_⟩⟩
    have hi' : i < (linesL l).length := hi
    have key : ∀ j, j < 3 → w.cell? ⟨g, i * 3 + j, none⟩ = (lnCells (lnA l i, lnB l i, lnE l i))[j]? := by
      intro j hj
      rw [h.cellAt (i * 3 + j) (by unfold lnN at *; omega), flatRow_at lnCells 3 (fun _ => rfl) _ _ _ hi' hj]
      have := ln_eta l i hi
      rw [List.getElem?_eq_getElem hi'] at this
      injection this with this
      rw [this]
    exact ⟨key 0 (by omega), key 1 (by omega), key 2 (by omega)⟩
theorem refall_at (s : ByteArray) (hs : s.size ≤ 1048576) (w : World) :
    Calls Tryd.prog 76 #[.string s] w fun e w' => ∃ ao cap, e = .returned (.slice ao (lnN (bs s)) cap) ∧ LinesAt w' ao (bs s) ∧ Below w.heap.size w w' := by
  refine (refall_any s hs w).mono ?_
  rintro e w' ⟨v, rfl, ho, hb⟩
  obtain ⟨ao, cap, rfl, hc⟩ := LinesAt.owned ho
  exact ⟨ao, cap, rfl, hc, hb⟩
end Go.Proofs.YtfoppbignompkaaDoor

namespace Go.Proofs.YtfoppbignompkaaDoor
open Go.RowKit

/-- the character that begins last at or ahead of a place, among the first k -/
def LastLe (l : Bs) (c k f : Nat) : Prop := (k = 0 ∧ f = 0) ∨ ∃ m, m < k ∧ f = atN l m ∧ atN l m ≤ c ∧ ∀ j, m < j → j < k → c < atN l j
set_option maxHeartbeats 2000000 in
theorem reffirstp_any (s : ByteArray) (c : Nat) (hc : c ≤ s.size) (w : World) :
    Calls Tryd.prog 82 #[.string s, .int .i64 (c : Nat)] w fun e w' => e = .returned (.int .i64 (atN (bs s) (ofT (tk (bs s)) c) : Nat)) ∧ Below w.heap.size w w' := by
  obtain ⟨l, hl⟩ : ∃ l, bs s = l := ⟨_, rfl⟩
  have hlen : l.length = s.size := by rw [← hl, size_bs]
  rw [hl]
  have HL := Lib.hid hl
  clear hl
  by_cases hce : c = s.size
  · have hc1 : (((c : Nat) : Int) == (s.size : Int)) = true := beq_iff_eq.2 (by omega)
    have HV := Lib.hid (show c = atN l (ofT (tk l) c) by rw [hce, ← hlen, ofT_end, atN_full])
    clear hlen hce
    go_enter Tryd.func82, Tryd.ntmps82
    go_wp2_with fail
    go_ret
    exact ⟨ret_int (congrArg Nat.cast HV.out), Below.refl _ _⟩
  · have hc1 : (((c : Nat) : Int) == (s.size : Int)) = false := beq_eq_false_iff_ne.2 (by omega)
    have HLEN := Lib.hid hlen
    clear hlen
    go_enter Tryd.func82, Tryd.ntmps82
    go_wp2_with fail
    go_loopw [5] (fun f wr => ∃ done p f', Cut l done p ∧ wr.heap[w.heap.size]? = some (.stringIter s p) ∧ f = .int .i64 (f' : Nat) ∧ Hid (LastLe l c done.length f') ∧ Below w.heap.size w wr) (fun _ wr => s.size - wr.iterPos w.heap.size)
    case atStart => exact ⟨[], 0, 0, Cut.zero _, World.iter_heap _ _ _, rfl, Lib.hid (.inl ⟨rfl, rfl⟩), al (Below.refl _ _) _⟩
    case round =>
      obtain ⟨done, p, f', hc, hit, rfl, hll, hb⟩ := hrel
      by_cases hp : p < s.size
      · have hp' : p < l.length := by rw [HLEN.out]; exact hp
        have hnx := fun ty => Lib.run_next_any_at (P := Tryd.prog) wr w.heap.size s p ty hit hp
        rw [decode_bs, HL.out] at hnx
        have hcs := hc.step hp'
        have hw := (wid_bounds (l.drop p)).1
        have hat := hc.at'
        have hlc := hc.lt_count hp'
        obtain ⟨d, hd⟩ : ∃ d, d = Lib.decodeL (l.drop p) := ⟨_, rfl⟩
        rw [← hd] at hnx hcs hw
        obtain ⟨r, n'⟩ := d
        simp only at hnx hw hcs
        have hbi : Below w.heap.size wr (wr.iterAt w.heap.size s (p + n')) := Lib.below_iterAt (Below.refl _ _) (Nat.le_refl _) s (p + n')
        have HIT := Lib.hid (Lib.iterAt_heap wr w.heap.size s p (p + n') hit)
        have HIP := Lib.hid (show wr.iterPos w.heap.size = p from iterPos_of hit)
        have hbV : Below w.heap.size w (wr.iterAt w.heap.size s (p + n')) := hb.trans hbi
        obtain ⟨V, hV⟩ : ∃ V, wr.iterAt w.heap.size s (p + n') = V := ⟨_, rfl⟩
        rw [hV] at hnx HIT hbV
        have HCS := Lib.hid hcs
        have HAT := Lib.hid hat
        by_cases hle : p ≤ c
        · have hd1 : decide (p ≤ c) = true := decide_eq_true hle
          have HLL := Lib.hid (show LastLe l c (done ++ [(r, n')]).length p from .inr ⟨done.length, by simp, hat.symm, by omega, fun j h1 h2 => by rw [List.length_append, List.length_singleton] at h2; omega⟩)
          clear hd hc hit hcs hV hbi hb hp' hat hlc hle hll
          go_wp2_with fail
          exact ⟨⟨_, _, p, HCS.out, HIT.out, rfl, HLL, hbV⟩, by rw [iterPos_of HIT.out, HIP.out]; omega⟩
        · have hd1 : decide (p ≤ c) = false := decide_eq_false hle
          have HLL := Lib.hid (show LastLe l c (done ++ [(r, n')]).length f' from by
            rw [List.length_append, List.length_singleton]
            rcases hll.out with ⟨h1, _⟩ | ⟨m, h1, h2, h3, h4⟩
            · exfalso
              rw [h1, atN_zero] at hat
              omega
            · refine .inr ⟨m, by omega, h2, h3, fun j h5 h6 => ?_⟩
              by_cases e : j = done.length
              · rw [e, hat]; omega
              · exact h4 j h5 (by omega))
          clear hd hc hit hcs hV hbi hb hp' hat hlc hle hll
          go_wp2_with fail
          exact ⟨⟨_, _, f', HCS.out, HIT.out, rfl, HLL, hbV⟩, by rw [iterPos_of HIT.out, HIP.out]; omega⟩
      · have hnx := fun ty => Lib.run_next_end_at (P := Tryd.prog) wr w.heap.size s p ty hit hp
        have hE := (hc.end' (by rw [HLEN.out]; omega)).1
        have HV := Lib.hid (show f' = atN l (ofT (tk l) c) by
          rcases hll.out with ⟨h1, _⟩ | ⟨m, h1, h2, h3, h4⟩
          · have := atN_full l
            rw [show countN l = 0 by rw [hE] at h1; exact h1, atN_zero, HLEN.out] at this
            omega
          · rw [h2]
            congr 1
            rw [hE] at h1 h4
            refine (of_is h1 h3 ?_).symm
            rcases Nat.lt_or_ge (m + 1) (countN l) with h | h
            · exact h4 (m + 1) (by omega) h
            · have : m + 1 = countN l := by unfold countN at *; omega
              rw [this, atN_full, HLEN.out]
              omega)
        clear hE hc hit hll
        go_wp2_with fail
        go_ret
        exact ⟨ret_int (congrArg Nat.cast HV.out), hb⟩

set_option maxHeartbeats 2000000 in
theorem refchars_any (s : ByteArray) (hs : s.size ≤ 1048576) (q : Nat) (hq : q ≤ countN (bs s)) (to : Int) (hto : to = (atN (bs s) q : Nat)) (w : World) :
    Calls Tryd.prog 83 #[.string s, .int .i64 to] w fun e w' => e = .returned (.int .i64 (q : Nat)) ∧ Below w.heap.size w w' := by
  have hcl := bs_len_le s
  obtain ⟨l, hl⟩ : ∃ l, bs s = l := ⟨_, rfl⟩
  have hlen : l.length = s.size := by rw [← hl, size_bs]
  rw [hl] at hq hto hcl
  have HL := Lib.hid hl
  have HLEN := Lib.hid hlen
  have HTO := Lib.hid hto
  clear hl hlen hto
  go_enter Tryd.func83, Tryd.ntmps83
  go_wp2_with fail
  go_loopw [5] (fun f wr => ∃ done p, Cut l done p ∧ wr.heap[w.heap.size]? = some (.stringIter s p) ∧ f = .int .i64 ((min done.length q : Nat)) ∧ Below w.heap.size w wr) (fun _ wr => s.size - wr.iterPos w.heap.size)
  case atStart => exact ⟨[], 0, Cut.zero _, World.iter_heap _ _ _, by simp, al (Below.refl _ _) _⟩
  case round =>
    obtain ⟨done, p, hc, hit, rfl, hb⟩ := hrel
    by_cases hp : p < s.size
    · have hp' : p < l.length := by rw [HLEN.out]; exact hp
      have hnx := fun ty => Lib.run_next_any_at (P := Tryd.prog) wr w.heap.size s p ty hit hp
      rw [decode_bs, HL.out] at hnx
      have hcs := hc.step hp'
      have hw := (wid_bounds (l.drop p)).1
      have hat := hc.at'
      have hlc := hc.lt_count hp'
      obtain ⟨d, hd⟩ : ∃ d, d = Lib.decodeL (l.drop p) := ⟨_, rfl⟩
      rw [← hd] at hnx hcs hw
      obtain ⟨r, n'⟩ := d
      simp only at hnx hw hcs
      have hbi : Below w.heap.size wr (wr.iterAt w.heap.size s (p + n')) := Lib.below_iterAt (Below.refl _ _) (Nat.le_refl _) s (p + n')
      have HIT := Lib.hid (Lib.iterAt_heap wr w.heap.size s p (p + n') hit)
      have HIP := Lib.hid (show wr.iterPos w.heap.size = p from iterPos_of hit)
      have hbV : Below w.heap.size w (wr.iterAt w.heap.size s (p + n')) := hb.trans hbi
      obtain ⟨V, hV⟩ : ∃ V, wr.iterAt w.heap.size s (p + n') = V := ⟨_, rfl⟩
      rw [hV] at hnx HIT hbV
      have HCS := Lib.hid hcs
      have HAT := Lib.hid hat
      by_cases hle : done.length < q
      · have hd1 : decide ((p : Int) < to) = true := decide_eq_true (by rw [HTO.out, ← hat]; have := atL_lt l hle hq; omega)
        have HM := Lib.hid (show min (done ++ [(r, n')]).length q = min done.length q + 1 by rw [List.length_append, List.length_singleton]; omega)
        obtain ⟨m, hm⟩ : ∃ m, min done.length q = m := ⟨_, rfl⟩
        rw [hm] at HM ⊢
        have hm2 : m ≤ 1048576 := by omega
        clear hd hc hit hcs hV hbi hb hp' hat hlc hle hm
        go_wp2_with fail
        exact ⟨⟨_, _, HCS.out, HIT.out, by rw [HM.out]; go_num, hbV⟩, by rw [iterPos_of HIT.out, HIP.out]; omega⟩
      · have hd1 : decide ((p : Int) < to) = false := decide_eq_false (by rw [HTO.out, ← hat]; have := atL_le l (show q ≤ done.length by omega) (by omega); omega)
        have HM := Lib.hid (show min (done ++ [(r, n')]).length q = min done.length q by rw [List.length_append, List.length_singleton]; omega)
        obtain ⟨m, hm⟩ : ∃ m, min done.length q = m := ⟨_, rfl⟩
        rw [hm] at HM ⊢
        clear hd hc hit hcs hV hbi hb hp' hat hlc hle hm
        go_wp2_with fail
        exact ⟨⟨_, _, HCS.out, HIT.out, by rw [HM.out], hbV⟩, by rw [iterPos_of HIT.out, HIP.out]; omega⟩
    · have hnx := fun ty => Lib.run_next_end_at (P := Tryd.prog) wr w.heap.size s p ty hit hp
      have hE := (hc.end' (by rw [HLEN.out]; omega)).1
      have HV := Lib.hid (show min done.length q = q by rw [hE]; unfold countN at hq; omega)
      obtain ⟨m, hm⟩ : ∃ m, min done.length q = m := ⟨_, rfl⟩
      rw [hm] at HV ⊢
      clear hE hc hit hm
      go_wp2_with fail
      go_ret
      exact ⟨ret_int (congrArg Nat.cast HV.out), hb⟩

theorem gS_keep {w W W' : World} {r g i : Nat} {v : Value} (H : W.cell? ⟨g, i, none⟩ = some v ∧ w.grownBy W (some r)) (hb : Below W.heap.size W W') : W'.cell? ⟨g, i, none⟩ = some v ∧ w.grownBy W' (some r) :=
  ⟨cellKeep H.1 hb, hb.os.trans H.2.os, hb.tape.trans H.2.tape, hb.output.trans H.2.output, Nat.le_trans H.2.size hb.size, fun k hk hne => (hb.block k (Nat.lt_of_lt_of_le hk H.2.size)).trans (H.2.block k hk hne)⟩
theorem gS_set {w W : World} {r g i : Nat} {v : Value} (H : W.cell? ⟨g, i, none⟩ = some v ∧ w.grownBy W (some r)) (h1 : g ≠ r) (j : Nat) (u : Value) :
    (W.setCell ⟨r, j, none⟩ u).cell? ⟨g, i, none⟩ = some v ∧ w.grownBy (W.setCell ⟨r, j, none⟩ u) (some r) := by
  have hg := grownBy_set W r j u
  have l1 := World.block_lt_of_cell? W _ H.1
  exact ⟨(World.cell?_of_block (a := ⟨g, i, none⟩) (hg.block g l1 (fun e => h1 (by injection e)))).trans H.1,
    hg.os.trans H.2.os, hg.tape.trans H.2.tape, hg.output.trans H.2.output, Nat.le_trans H.2.size hg.size, fun k hk hne => (hg.block k (Nat.lt_of_lt_of_le hk H.2.size) hne).trans (H.2.block k hk hne)⟩

/-- the document's search for a place's line, by where its character begins -/
theorem lnA_le_iff {l : Bs} {c k : Nat} (hk : k < lnN l) (hc : c ≤ l.length) : lnA l k ≤ atN l (ofT (tk l) c) ↔ lnA l k ≤ c := by
  have hle : atN l (ofT (tk l) c) ≤ c := by
    rcases Nat.lt_or_ge c l.length with h | h
    · obtain ⟨n, hn, e, a1, _⟩ := of_find l c h
      rw [e]; exact a1
    · obtain rfl : c = l.length := by omega
      rw [ofT_end, atN_full]
      exact Nat.le_refl _
  refine ⟨fun h => by omega, fun h => ?_⟩
  obtain ⟨j, hj, hat, hof⟩ := border_at (lnA_border l k hk)
  have := of_mono h hc
  rw [hof] at this
  rw [← hat]
  exact atL_le l this (of_le hc)

set_option maxHeartbeats 2000000 in
theorem refwhere_out (s : ByteArray) (hs : s.size ≤ 1048576) (c : Int) (hc : c < 0 ∨ (s.size : Int) < c) (w : World) :
    Calls Tryd.prog 50 #[.string s, .int .i64 c] w fun e w' => e = .returned (.tuple #[.agg #[.int .i64 0, .int .i64 0], .int .i64 6]) ∧ Below w.heap.size w w' := by
  rcases hc with h0 | h1
  · go_enter Tryd.func50, Tryd.ntmps50
    go_wp2_with fail
    exact bodyPost_ret (v := .tuple #[.agg #[.int .i64 0, .int .i64 0], .int .i64 6]) (by simp [results, Tryd.results50, go_sem]) rfl ⟨rfl, al (Below.refl _ _) _⟩
  · have h0 : ¬ c < 0 := by omega
    go_enter Tryd.func50, Tryd.ntmps50
    go_wp2_with fail
    exact bodyPost_ret (v := .tuple #[.agg #[.int .i64 0, .int .i64 0], .int .i64 6]) (by simp [results, Tryd.results50, go_sem]) rfl ⟨rfl, al (Below.refl _ _) _⟩

set_option maxHeartbeats 4000000 in
theorem refwhere_at (s : ByteArray) (hs : s.size ≤ 1048576) (c : Nat) (hc : c ≤ s.size) (w : World) :
    Calls Tryd.prog 50 #[.string s, .int .i64 (c : Nat)] w fun e w' => e = .returned (.tuple #[.agg #[.int .i64 (lnOf (bs s) c : Nat), .int .i64 (colOf (bs s) c : Nat)], .int .i64 0]) ∧ Below w.heap.size w w' := by
  have HF := Lib.hid (fun w => reffirstp_any s c hc w)
  have HA := Lib.hid (fun w => refall_at s hs w)
  have hNl := lnN_le (bs s)
  have hcl : c ≤ (bs s).length := by rw [← size_bs]; exact hc
  have hCH := fun a (ha : a ≤ countN (bs s)) q hq hto w => refchars_any (s.extract (atN (bs s) a) s.size) (by rw [ByteArray.size_extract]; omega) q hq ((atN (bs s) (ofT (tk (bs s)) c) : Nat) - (atN (bs s) a : Nat)) hto w
  simp only [bs_drop] at hCH
  rw [← size_bs] at hNl
  obtain ⟨l, hl⟩ : ∃ l, bs s = l := ⟨_, rfl⟩
  rw [hl] at HF HA hNl hcl hCH ⊢
  obtain ⟨N, hN⟩ : ∃ N, lnN l = N := ⟨_, rfl⟩
  rw [hN] at HA hNl
  obtain ⟨M, hM⟩ : ∃ M, atN l (ofT (tk l) c) = M := ⟨_, rfl⟩
  rw [hM] at HF
  have HN := Lib.hid hN
  have HM := Lib.hid hM
  have hMs : M ≤ s.size := by
    have := (cut_at l (ofT (tk l) c) (of_le hcl)).1
    rw [hM, ← hl, ← size_bs] at this
    exact this
  have HCH := Lib.hid hCH
  have HCL := Lib.hid hcl
  clear hl hN hM hCH hcl
  have hc0 : decide ((c : Int) < 0) = false := decide_eq_false (by omega)
  have hc1 : decide (s.size < c) = false := decide_eq_false (by omega)
  go_enter Tryd.func50, Tryd.ntmps50
  have T0 := Two.new w 45 (.int .i64 0) (.int .i64 0)
  go_wp2_with (first
    | (go_at_call 82; (with_reducible refine (HF.out _).mono ?_); rintro e w1 ⟨rfl, hb1⟩)
    | (go_at_call 76; (with_reducible refine (HA.out _).mono ?_); rintro e w2 ⟨ao, ca, rfl, hx2, hb2⟩))
  have HX := Lib.hid hx2
  have T2 : Two w2 w.heap.size 45 (.int .i64 0) (.int .i64 0) := (hb2.block _ (Nat.lt_of_lt_of_le T0.lt hb1.size)).trans ((hb1.block _ T0.lt).trans T0)
  have hbw : Below w.heap.size w w2 := nx (nx (al (Below.refl _ _) _) hb1) hb2
  clear hx2 T0 hb1 hb2
  go_loop [7] (fun i => ∃ k, k ≤ N ∧ i = .int .i64 ((k : Nat) - 1) ∧ Hid (∀ j, k ≤ j → j < N → c < lnA l j)) (fun i => (intOf i + 1).toNat)
  case atStart => exact ⟨N, Nat.le_refl _, rfl, Lib.hid (fun j h1 h2 => absurd h2 (by omega))⟩
  case round =>
    obtain ⟨k, hk, rfl, hA⟩ := hrel
    by_cases hlt : 0 < k
    · obtain ⟨m, rfl⟩ : ∃ m, k = m + 1 := ⟨k - 1, by omega⟩
      rw [show (((m + 1 : Nat) : Int) - 1) = ((m : Nat) : Int) by omega]
      obtain ⟨g, rfl, x0, -, x2⟩ := HX.out m (by rw [HN.out]; omega)
      have hne : g ≠ w.heap.size := T2.ne x2 (by omega)
      clear x2
      have hki : (m : Int) < (N : Int) := by omega
      have hk0 : (0 : Int) ≤ (m : Int) := by omega
      have hk1 : m ≤ 1048577 := by omega
      have hiff := lnA_le_iff (l := l) (c := c) (k := m) (by rw [HN.out]; omega) HCL.out
      rw [HM.out] at hiff
      by_cases hle : lnA l m ≤ M
      · have hIs : IsLn l c m := ⟨by rw [HN.out]; omega, hiff.1 hle, fun h => hA.out (m + 1) (Nat.le_refl _) (by rw [HN.out] at h; exact h)⟩
        obtain ⟨a, ha, hat, hof⟩ := border_at (lnA_border l m hIs.1)
        have hq : ofT (tk l) c - a ≤ countN (l.drop (atN l a)) := by
          have h1 : countN (l.drop (atN l a)) = countN l - a := by unfold countN; rw [seg_drop l a ha, List.length_drop]
          have := of_le HCL.out
          omega
        have hao : a ≤ ofT (tk l) c := by
          have := of_mono hIs.2.1 HCL.out
          rwa [hof] at this
        have hto : ((atN l (ofT (tk l) c) : Nat) : Int) - (atN l a : Nat) = (atN (l.drop (atN l a)) (ofT (tk l) c - a) : Nat) := by
          have := seg_at l a (ofT (tk l) c - a) ha
          rw [show a + (ofT (tk l) c - a) = ofT (tk l) c by omega] at this
          omega
        have HC := Lib.hid (HCH.out a ha _ hq hto)
        have HCO := Lib.hid (show colOf l c = ofT (tk l) c - a by unfold colOf; rw [lnOf_eq hIs, hof])
        have HLN := Lib.hid (lnOf_eq hIs)
        rw [hat, HM.out] at HC
        obtain ⟨q, hqq⟩ : ∃ q, ofT (tk l) c - a = q := ⟨_, rfl⟩
        rw [hqq] at HC HCO
        obtain ⟨A, hAA⟩ : ∃ q, lnA l m = q := ⟨_, rfl⟩
        rw [hAA] at HC x0 hle
        have hd : decide (A ≤ M) = true := decide_eq_true hle
        have hAs : A ≤ s.size := by omega
        have f0 := T2.frozen0
        have f1 := T2.frozen1
        have d0 := T2.cell0
        have d1 := T2.cell1
        have hS : w2.cell? ⟨g, m * 3, none⟩ = some (.int .i64 (A : Nat)) ∧ w2.grownBy w2 (some w.heap.size) := ⟨x0, rfl, rfl, rfl, Nat.le_refl _, fun _ _ _ => rfl⟩
        clear hiff hle hIs ha hat hof hq hao hto hqq hAA hA
        go_wp2_with fail
        have hwr : IntKind.i64.wrap ((M : Int) - (A : Int)) = (M : Int) - (A : Int) := IntWalk.i64_in _ (by omega)
        go_region_held_law (fun w' => w'.cell? ⟨g, m * 3, none⟩ = some (.int .i64 (A : Nat)) ∧ w2.grownBy w' (some w.heap.size)) (first | (with_reducible exact gS_set (gS_set (by assumption) hne _ _) hne _ _) | (with_reducible assumption) | (with_reducible exact gS_keep hS (Below.refl _ _).drew) | (with_reducible exact gS_keep (by assumption) (by assumption)))
          (first | (go_at_call 83; (with_reducible refine (HC.out _).mono ?_); rintro e w8 ⟨rfl, hb8⟩; have T8 : Two w8 w.heap.size 45 (.int .i64 0) (.int .i64 0) := (hb8.block _ T2.lt).trans T2; have q0 := T8.cell0; have q1 := T8.cell1; have p0 := T8.frozen0; have p1 := T8.frozen1))
        all_goals
          have hb9 : Below w.heap.size w ((w8.setCell ⟨w.heap.size, 0, none⟩ (.int .i64 (m : Nat))).setCell ⟨w.heap.size, 1, none⟩ (.int .i64 (q : Nat))) := ((nx hbw.drew hb8).setCell (p := ⟨w.heap.size, 0, none⟩) (Nat.le_refl _) _).setCell (p := ⟨w.heap.size, 1, none⟩) (Nat.le_refl _) _
          have T9 := (T8.set0 (.int .i64 (m : Nat))).set1 (.int .i64 (q : Nat))
          obtain ⟨W9, hW9⟩ : ∃ W9, (w8.setCell ⟨w.heap.size, 0, none⟩ (.int .i64 (m : Nat))).setCell ⟨w.heap.size, 1, none⟩ (.int .i64 (q : Nat)) = W9 := ⟨_, rfl⟩
          rw [hW9] at hb9 T9 ⊢
          have r0 := T9.cell0
          have r1 := T9.cell1
          clear hS q0 q1 p0 p1 x0 T8 hW9 hwr
          go_wp2_with fail
          exact bodyPost_ret (v := .tuple #[.agg #[.int .i64 (m : Nat), .int .i64 (q : Nat)], .int .i64 0]) (by simp [results, Tryd.results50, go_sem, r0, r1]) rfl ⟨by rw [HLN.out, HCO.out], hb9⟩
      · have hd : decide (lnA l m ≤ M) = false := decide_eq_false hle
        have HA2 := Lib.hid (show ∀ j, m ≤ j → j < N → c < lnA l j from fun j h1 h2 => by
          by_cases e : j = m
          · rw [e]
            rcases Nat.lt_or_ge c (lnA l m) with h | h
            · exact h
            · exact absurd (hiff.2 h) hle
          · exact hA.out j (by omega) h2)
        obtain ⟨A, hAA⟩ : ∃ q, lnA l m = q := ⟨_, rfl⟩
        rw [hAA] at x0 hd
        clear hiff hle hAA hA
        go_wp2_with fail
        exact ⟨⟨m, by omega, rfl, HA2⟩, by simp only [intOf]; omega⟩
    · obtain rfl : k = 0 := by omega
      exfalso
      have h1 := hA.out 0 (Nat.le_refl _) (by rw [← HN.out]; exact lnN_pos l)
      rw [lnA_zero] at h1
      omega
end Go.Proofs.YtfoppbignompkaaDoor
