/-
  The contract of the library's FullRuneInString.
-/
import Derived.Test.YtkknmbkfiiidmaaDoorLast
import Derived.Lib.DecodeNEq
import Derived.BigQuiet
import Derived.Deep.QuietTactic
namespace Go.Proofs.YtkknmbkfiiidmaaDoor
open Go.RowKit

/-- Is a text at least one whole character, or not the beginning of one? -/
def fullN (n b0 b1 b2 : Nat) : Bool := decide (Lib.firstT b0 % 8 ≤ n) || (decide (1 < n) && (decide (b1 < Lib.accLo (Lib.firstT b0 / 16)) || decide (Lib.accHi (Lib.firstT b0 / 16) < b1))) || (decide (2 < n) && (decide (b2 < 128) || decide (191 < b2)))
def fullB (l : Bs) : Bool := fullN l.length (by' l 0) (by' l 1) (by' l 2)

theorem tab_first {w : World} (hT : Tabs w) (b : Nat) (hb : b < 256) : w.cell? ⟨0, b, none⟩ = some (.int .u8 (Lib.firstT b)) := hT.1 b hb
theorem tab_acc {w : World} (hT : Tabs w) (i : Nat) (hi : i < 16) : w.cell? ⟨1, 2 * i, none⟩ = some (.int .u8 (Lib.accLo i)) ∧ w.cell? ⟨1, 2 * i + 1, none⟩ = some (.int .u8 (Lib.accHi i)) := hT.2 i hi

set_option maxRecDepth 100000 in
set_option maxHeartbeats 4000000 in
theorem full_any (s : ByteArray) (hs : s.size ≤ 140737488351232) (h0 : s.size ≠ 0) (w : World) (hT : Tabs w) :
    Calls Tryd.prog 50 #[.string s] w fun e w' => e = .returned (.bool (fullB (bs s))) ∧ Below w.heap.size w w' := by
  have hn0 : ((s.size : Int) == 0) = false := beq_eq_false_iff_ne.2 (by omega)
  have hp : 0 < s.size := by omega
  have hg0 := get_bs s 0 hp
  have hb0 := by_lt (bs s) 0
  have hc := tab_first hT _ hb0
  have hF : fullB (bs s) = fullN s.size (by' (bs s) 0) (by' (bs s) 1) (by' (bs s) 2) := by unfold fullB; rw [size_bs]
  obtain ⟨b0, hb⟩ : ∃ b, b = by' (bs s) 0 := ⟨_, rfl⟩
  rw [← hb] at hg0 hb0 hc hF
  have HB := Lib.hid hb
  have HF := Lib.hid hF
  have HT := Lib.hid hT
  clear hb hF hT h0
  obtain ⟨x, hx⟩ : ∃ x, x = Lib.firstT b0 := ⟨_, rfl⟩
  have hcs := Lib.firstT_cases b0
  rw [← hx] at hc hcs
  have HX := Lib.hid hx
  clear hx
  rcases hcs with rfl | rfl | rfl | rfl | rfl | rfl | rfl | rfl | rfl
  · have HV := Lib.hid (show fullB (bs s) = true by rw [HF.out, fullN, ← HX.out]; simp only [Bool.or_eq_true, decide_eq_true_eq]; left; left; omega)
    go_enter Tryd.func50, Tryd.ntmps50
    go_wp2
    go_ret
    rw [HV.out]
    exact ⟨rfl, Below.refl _ _⟩
  · have HV := Lib.hid (show fullB (bs s) = true by rw [HF.out, fullN, ← HX.out]; simp only [Bool.or_eq_true, decide_eq_true_eq]; left; left; omega)
    go_enter Tryd.func50, Tryd.ntmps50
    go_wp2
    go_ret
    rw [HV.out]
    exact ⟨rfl, Below.refl _ _⟩
  · by_cases hz : 2 ≤ s.size
    · have HV := Lib.hid (show fullB (bs s) = true by rw [HF.out, fullN, ← HX.out]; simp only [Bool.or_eq_true, decide_eq_true_eq]; left; left; omega)
      go_enter Tryd.func50, Tryd.ntmps50
      go_wp2
      go_ret
      rw [HV.out]
      exact ⟨rfl, Below.refl _ _⟩
    · have ha1 : w.cell? ⟨1, 0, none⟩ = some (.int .u8 128) := (tab_acc HT.out 0 (by omega)).1
      have ha2 : w.cell? ⟨1, 1, none⟩ = some (.int .u8 191) := (tab_acc HT.out 0 (by omega)).2
      by_cases h1 : 1 < s.size
      · exfalso; omega
      · have hd1 : decide ((1 : Int) < (s.size : Int)) = false := by simp; omega
        have hd2 : decide ((2 : Int) < (s.size : Int)) = false := by simp; omega
        have HV := Lib.hid (show fullB (bs s) = false by rw [HF.out, fullN, ← HX.out]; simp [Lib.accLo, Lib.accHi]; omega)
        go_enter Tryd.func50, Tryd.ntmps50
        go_wp2
        go_quiet (fail)
        go_wp2
        go_ret
        rw [HV.out]
        exact ⟨rfl, below_drewN ((Below.refl _ _).alloc (Nat.le_refl _) _) _⟩
  · by_cases hz : 3 ≤ s.size
    · have HV := Lib.hid (show fullB (bs s) = true by rw [HF.out, fullN, ← HX.out]; simp only [Bool.or_eq_true, decide_eq_true_eq]; left; left; omega)
      go_enter Tryd.func50, Tryd.ntmps50
      go_wp2
      go_ret
      rw [HV.out]
      exact ⟨rfl, Below.refl _ _⟩
    · have ha1 : w.cell? ⟨1, 2, none⟩ = some (.int .u8 160) := (tab_acc HT.out 1 (by omega)).1
      have ha2 : w.cell? ⟨1, 3, none⟩ = some (.int .u8 191) := (tab_acc HT.out 1 (by omega)).2
      by_cases h1 : 1 < s.size
      · have hg1 := get_bs s 1 h1
        have hb1 := by_lt (bs s) 1
        have hd1 : decide ((1 : Int) < (s.size : Int)) = true := by simp; omega
        obtain ⟨b1, hb⟩ : ∃ b, b = by' (bs s) 1 := ⟨_, rfl⟩
        rw [← hb] at hg1 hb1
        have hF2 := HF.out
        rw [← hb] at hF2
        have HF2 := Lib.hid hF2
        clear hb hF2
        by_cases hl : b1 < 160
        · have hq1 : decide ((b1 : Int) < 160) = true := by simp; omega
          have HV := Lib.hid (show fullB (bs s) = true by rw [HF2.out, fullN, ← HX.out]; simp [Lib.accLo, Lib.accHi]; omega)
          go_enter Tryd.func50, Tryd.ntmps50
          go_wp2
          go_quiet (fail)
          go_wp2
          go_ret
          rw [HV.out]
          exact ⟨rfl, below_drewN ((Below.refl _ _).alloc (Nat.le_refl _) _) _⟩
        · have hq1 : decide ((b1 : Int) < 160) = false := by simp; omega
          by_cases hh : 191 < b1
          · have hq2 : decide ((191 : Int) < (b1 : Int)) = true := by simp; omega
            have HV := Lib.hid (show fullB (bs s) = true by rw [HF2.out, fullN, ← HX.out]; simp [Lib.accLo, Lib.accHi]; omega)
            go_enter Tryd.func50, Tryd.ntmps50
            go_wp2
            go_quiet (fail)
            go_wp2
            go_ret
            rw [HV.out]
            exact ⟨rfl, below_drewN ((Below.refl _ _).alloc (Nat.le_refl _) _) _⟩
          · have hq2 : decide ((191 : Int) < (b1 : Int)) = false := by simp; omega
            by_cases h2 : 2 < s.size
            · exfalso; omega
            · have hd2 : decide ((2 : Int) < (s.size : Int)) = false := by simp; omega
              have HV := Lib.hid (show fullB (bs s) = false by rw [HF2.out, fullN, ← HX.out]; simp [Lib.accLo, Lib.accHi]; omega)
              go_enter Tryd.func50, Tryd.ntmps50
              go_wp2
              go_quiet (fail)
              go_wp2
              go_ret
              rw [HV.out]
              exact ⟨rfl, below_drewN ((Below.refl _ _).alloc (Nat.le_refl _) _) _⟩
      · have hd1 : decide ((1 : Int) < (s.size : Int)) = false := by simp; omega
        have hd2 : decide ((2 : Int) < (s.size : Int)) = false := by simp; omega
        have HV := Lib.hid (show fullB (bs s) = false by rw [HF.out, fullN, ← HX.out]; simp [Lib.accLo, Lib.accHi]; omega)
        go_enter Tryd.func50, Tryd.ntmps50
        go_wp2
        go_quiet (fail)
        go_wp2
        go_ret
        rw [HV.out]
        exact ⟨rfl, below_drewN ((Below.refl _ _).alloc (Nat.le_refl _) _) _⟩
  · by_cases hz : 3 ≤ s.size
    · have HV := Lib.hid (show fullB (bs s) = true by rw [HF.out, fullN, ← HX.out]; simp only [Bool.or_eq_true, decide_eq_true_eq]; left; left; omega)
      go_enter Tryd.func50, Tryd.ntmps50
      go_wp2
      go_ret
      rw [HV.out]
      exact ⟨rfl, Below.refl _ _⟩
    · have ha1 : w.cell? ⟨1, 0, none⟩ = some (.int .u8 128) := (tab_acc HT.out 0 (by omega)).1
      have ha2 : w.cell? ⟨1, 1, none⟩ = some (.int .u8 191) := (tab_acc HT.out 0 (by omega)).2
      by_cases h1 : 1 < s.size
      · have hg1 := get_bs s 1 h1
        have hb1 := by_lt (bs s) 1
        have hd1 : decide ((1 : Int) < (s.size : Int)) = true := by simp; omega
        obtain ⟨b1, hb⟩ : ∃ b, b = by' (bs s) 1 := ⟨_, rfl⟩
        rw [← hb] at hg1 hb1
        have hF2 := HF.out
        rw [← hb] at hF2
        have HF2 := Lib.hid hF2
        clear hb hF2
        by_cases hl : b1 < 128
        · have hq1 : decide ((b1 : Int) < 128) = true := by simp; omega
          have HV := Lib.hid (show fullB (bs s) = true by rw [HF2.out, fullN, ← HX.out]; simp [Lib.accLo, Lib.accHi]; omega)
          go_enter Tryd.func50, Tryd.ntmps50
          go_wp2
          go_quiet (fail)
          go_wp2
          go_ret
          rw [HV.out]
          exact ⟨rfl, below_drewN ((Below.refl _ _).alloc (Nat.le_refl _) _) _⟩
        · have hq1 : decide ((b1 : Int) < 128) = false := by simp; omega
          by_cases hh : 191 < b1
          · have hq2 : decide ((191 : Int) < (b1 : Int)) = true := by simp; omega
            have HV := Lib.hid (show fullB (bs s) = true by rw [HF2.out, fullN, ← HX.out]; simp [Lib.accLo, Lib.accHi]; omega)
            go_enter Tryd.func50, Tryd.ntmps50
            go_wp2
            go_quiet (fail)
            go_wp2
            go_ret
            rw [HV.out]
            exact ⟨rfl, below_drewN ((Below.refl _ _).alloc (Nat.le_refl _) _) _⟩
          · have hq2 : decide ((191 : Int) < (b1 : Int)) = false := by simp; omega
            by_cases h2 : 2 < s.size
            · exfalso; omega
            · have hd2 : decide ((2 : Int) < (s.size : Int)) = false := by simp; omega
              have HV := Lib.hid (show fullB (bs s) = false by rw [HF2.out, fullN, ← HX.out]; simp [Lib.accLo, Lib.accHi]; omega)
              go_enter Tryd.func50, Tryd.ntmps50
              go_wp2
              go_quiet (fail)
              go_wp2
              go_ret
              rw [HV.out]
              exact ⟨rfl, below_drewN ((Below.refl _ _).alloc (Nat.le_refl _) _) _⟩
      · have hd1 : decide ((1 : Int) < (s.size : Int)) = false := by simp; omega
        have hd2 : decide ((2 : Int) < (s.size : Int)) = false := by simp; omega
        have HV := Lib.hid (show fullB (bs s) = false by rw [HF.out, fullN, ← HX.out]; simp [Lib.accLo, Lib.accHi]; omega)
        go_enter Tryd.func50, Tryd.ntmps50
        go_wp2
        go_quiet (fail)
        go_wp2
        go_ret
        rw [HV.out]
        exact ⟨rfl, below_drewN ((Below.refl _ _).alloc (Nat.le_refl _) _) _⟩
  · by_cases hz : 3 ≤ s.size
    · have HV := Lib.hid (show fullB (bs s) = true by rw [HF.out, fullN, ← HX.out]; simp only [Bool.or_eq_true, decide_eq_true_eq]; left; left; omega)
      go_enter Tryd.func50, Tryd.ntmps50
      go_wp2
      go_ret
      rw [HV.out]
      exact ⟨rfl, Below.refl _ _⟩
    · have ha1 : w.cell? ⟨1, 4, none⟩ = some (.int .u8 128) := (tab_acc HT.out 2 (by omega)).1
      have ha2 : w.cell? ⟨1, 5, none⟩ = some (.int .u8 159) := (tab_acc HT.out 2 (by omega)).2
      by_cases h1 : 1 < s.size
      · have hg1 := get_bs s 1 h1
        have hb1 := by_lt (bs s) 1
        have hd1 : decide ((1 : Int) < (s.size : Int)) = true := by simp; omega
        obtain ⟨b1, hb⟩ : ∃ b, b = by' (bs s) 1 := ⟨_, rfl⟩
        rw [← hb] at hg1 hb1
        have hF2 := HF.out
        rw [← hb] at hF2
        have HF2 := Lib.hid hF2
        clear hb hF2
        by_cases hl : b1 < 128
        · have hq1 : decide ((b1 : Int) < 128) = true := by simp; omega
          have HV := Lib.hid (show fullB (bs s) = true by rw [HF2.out, fullN, ← HX.out]; simp [Lib.accLo, Lib.accHi]; omega)
          go_enter Tryd.func50, Tryd.ntmps50
          go_wp2
          go_quiet (fail)
          go_wp2
          go_ret
          rw [HV.out]
          exact ⟨rfl, below_drewN ((Below.refl _ _).alloc (Nat.le_refl _) _) _⟩
        · have hq1 : decide ((b1 : Int) < 128) = false := by simp; omega
          by_cases hh : 159 < b1
          · have hq2 : decide ((159 : Int) < (b1 : Int)) = true := by simp; omega
            have HV := Lib.hid (show fullB (bs s) = true by rw [HF2.out, fullN, ← HX.out]; simp [Lib.accLo, Lib.accHi]; omega)
            go_enter Tryd.func50, Tryd.ntmps50
            go_wp2
            go_quiet (fail)
            go_wp2
            go_ret
            rw [HV.out]
            exact ⟨rfl, below_drewN ((Below.refl _ _).alloc (Nat.le_refl _) _) _⟩
          · have hq2 : decide ((159 : Int) < (b1 : Int)) = false := by simp; omega
            by_cases h2 : 2 < s.size
            · exfalso; omega
            · have hd2 : decide ((2 : Int) < (s.size : Int)) = false := by simp; omega
              have HV := Lib.hid (show fullB (bs s) = false by rw [HF2.out, fullN, ← HX.out]; simp [Lib.accLo, Lib.accHi]; omega)
              go_enter Tryd.func50, Tryd.ntmps50
              go_wp2
              go_quiet (fail)
              go_wp2
              go_ret
              rw [HV.out]
              exact ⟨rfl, below_drewN ((Below.refl _ _).alloc (Nat.le_refl _) _) _⟩
      · have hd1 : decide ((1 : Int) < (s.size : Int)) = false := by simp; omega
        have hd2 : decide ((2 : Int) < (s.size : Int)) = false := by simp; omega
        have HV := Lib.hid (show fullB (bs s) = false by rw [HF.out, fullN, ← HX.out]; simp [Lib.accLo, Lib.accHi]; omega)
        go_enter Tryd.func50, Tryd.ntmps50
        go_wp2
        go_quiet (fail)
        go_wp2
        go_ret
        rw [HV.out]
        exact ⟨rfl, below_drewN ((Below.refl _ _).alloc (Nat.le_refl _) _) _⟩
  · by_cases hz : 4 ≤ s.size
    · have HV := Lib.hid (show fullB (bs s) = true by rw [HF.out, fullN, ← HX.out]; simp only [Bool.or_eq_true, decide_eq_true_eq]; left; left; omega)
      go_enter Tryd.func50, Tryd.ntmps50
      go_wp2
      go_ret
      rw [HV.out]
      exact ⟨rfl, Below.refl _ _⟩
    · have ha1 : w.cell? ⟨1, 6, none⟩ = some (.int .u8 144) := (tab_acc HT.out 3 (by omega)).1
      have ha2 : w.cell? ⟨1, 7, none⟩ = some (.int .u8 191) := (tab_acc HT.out 3 (by omega)).2
      by_cases h1 : 1 < s.size
      · have hg1 := get_bs s 1 h1
        have hb1 := by_lt (bs s) 1
        have hd1 : decide ((1 : Int) < (s.size : Int)) = true := by simp; omega
        obtain ⟨b1, hb⟩ : ∃ b, b = by' (bs s) 1 := ⟨_, rfl⟩
        rw [← hb] at hg1 hb1
        have hF2 := HF.out
        rw [← hb] at hF2
        have HF2 := Lib.hid hF2
        clear hb hF2
        by_cases hl : b1 < 144
        · have hq1 : decide ((b1 : Int) < 144) = true := by simp; omega
          have HV := Lib.hid (show fullB (bs s) = true by rw [HF2.out, fullN, ← HX.out]; simp [Lib.accLo, Lib.accHi]; omega)
          go_enter Tryd.func50, Tryd.ntmps50
          go_wp2
          go_quiet (fail)
          go_wp2
          go_ret
          rw [HV.out]
          exact ⟨rfl, below_drewN ((Below.refl _ _).alloc (Nat.le_refl _) _) _⟩
        · have hq1 : decide ((b1 : Int) < 144) = false := by simp; omega
          by_cases hh : 191 < b1
          · have hq2 : decide ((191 : Int) < (b1 : Int)) = true := by simp; omega
            have HV := Lib.hid (show fullB (bs s) = true by rw [HF2.out, fullN, ← HX.out]; simp [Lib.accLo, Lib.accHi]; omega)
            go_enter Tryd.func50, Tryd.ntmps50
            go_wp2
            go_quiet (fail)
            go_wp2
            go_ret
            rw [HV.out]
            exact ⟨rfl, below_drewN ((Below.refl _ _).alloc (Nat.le_refl _) _) _⟩
          · have hq2 : decide ((191 : Int) < (b1 : Int)) = false := by simp; omega
            by_cases h2 : 2 < s.size
            · have hg2 := get_bs s 2 h2
              have hb2 := by_lt (bs s) 2
              have hd2 : decide ((2 : Int) < (s.size : Int)) = true := by simp; omega
              obtain ⟨b2, hb⟩ : ∃ b, b = by' (bs s) 2 := ⟨_, rfl⟩
              have hF3 := HF2.out
              rw [← hb] at hg2 hb2 hF3
              have HF2 := Lib.hid hF3
              clear hb hF3
              by_cases hl2 : b2 < 128
              · have hq3 : decide ((b2 : Int) < 128) = true := by simp; omega
                have HV := Lib.hid (show fullB (bs s) = true by rw [HF2.out, fullN, ← HX.out]; simp [Lib.accLo, Lib.accHi]; omega)
                go_enter Tryd.func50, Tryd.ntmps50
                go_wp2
                go_quiet (fail)
                go_wp2
                go_ret
                rw [HV.out]
                exact ⟨rfl, below_drewN ((Below.refl _ _).alloc (Nat.le_refl _) _) _⟩
              · have hq3 : decide ((b2 : Int) < 128) = false := by simp; omega
                by_cases hh2 : 191 < b2
                · have hq4 : decide ((191 : Int) < (b2 : Int)) = true := by simp; omega
                  have HV := Lib.hid (show fullB (bs s) = true by rw [HF2.out, fullN, ← HX.out]; simp [Lib.accLo, Lib.accHi]; omega)
                  go_enter Tryd.func50, Tryd.ntmps50
                  go_wp2
                  go_quiet (fail)
                  go_wp2
                  go_ret
                  rw [HV.out]
                  exact ⟨rfl, below_drewN ((Below.refl _ _).alloc (Nat.le_refl _) _) _⟩
                · have hq4 : decide ((191 : Int) < (b2 : Int)) = false := by simp; omega
                  have HV := Lib.hid (show fullB (bs s) = false by rw [HF2.out, fullN, ← HX.out]; simp [Lib.accLo, Lib.accHi]; omega)
                  go_enter Tryd.func50, Tryd.ntmps50
                  go_wp2
                  go_quiet (fail)
                  go_wp2
                  go_ret
                  rw [HV.out]
                  exact ⟨rfl, below_drewN ((Below.refl _ _).alloc (Nat.le_refl _) _) _⟩
            · have hd2 : decide ((2 : Int) < (s.size : Int)) = false := by simp; omega
              have HV := Lib.hid (show fullB (bs s) = false by rw [HF2.out, fullN, ← HX.out]; simp [Lib.accLo, Lib.accHi]; omega)
              go_enter Tryd.func50, Tryd.ntmps50
              go_wp2
              go_quiet (fail)
              go_wp2
              go_ret
              rw [HV.out]
              exact ⟨rfl, below_drewN ((Below.refl _ _).alloc (Nat.le_refl _) _) _⟩
      · have hd1 : decide ((1 : Int) < (s.size : Int)) = false := by simp; omega
        have hd2 : decide ((2 : Int) < (s.size : Int)) = false := by simp; omega
        have HV := Lib.hid (show fullB (bs s) = false by rw [HF.out, fullN, ← HX.out]; simp [Lib.accLo, Lib.accHi]; omega)
        go_enter Tryd.func50, Tryd.ntmps50
        go_wp2
        go_quiet (fail)
        go_wp2
        go_ret
        rw [HV.out]
        exact ⟨rfl, below_drewN ((Below.refl _ _).alloc (Nat.le_refl _) _) _⟩
  · by_cases hz : 4 ≤ s.size
    · have HV := Lib.hid (show fullB (bs s) = true by rw [HF.out, fullN, ← HX.out]; simp only [Bool.or_eq_true, decide_eq_true_eq]; left; left; omega)
      go_enter Tryd.func50, Tryd.ntmps50
      go_wp2
      go_ret
      rw [HV.out]
      exact ⟨rfl, Below.refl _ _⟩
    · have ha1 : w.cell? ⟨1, 0, none⟩ = some (.int .u8 128) := (tab_acc HT.out 0 (by omega)).1
      have ha2 : w.cell? ⟨1, 1, none⟩ = some (.int .u8 191) := (tab_acc HT.out 0 (by omega)).2
      by_cases h1 : 1 < s.size
      · have hg1 := get_bs s 1 h1
        have hb1 := by_lt (bs s) 1
        have hd1 : decide ((1 : Int) < (s.size : Int)) = true := by simp; omega
        obtain ⟨b1, hb⟩ : ∃ b, b = by' (bs s) 1 := ⟨_, rfl⟩
        rw [← hb] at hg1 hb1
        have hF2 := HF.out
        rw [← hb] at hF2
        have HF2 := Lib.hid hF2
        clear hb hF2
        by_cases hl : b1 < 128
        · have hq1 : decide ((b1 : Int) < 128) = true := by simp; omega
          have HV := Lib.hid (show fullB (bs s) = true by rw [HF2.out, fullN, ← HX.out]; simp [Lib.accLo, Lib.accHi]; omega)
          go_enter Tryd.func50, Tryd.ntmps50
          go_wp2
          go_quiet (fail)
          go_wp2
          go_ret
          rw [HV.out]
          exact ⟨rfl, below_drewN ((Below.refl _ _).alloc (Nat.le_refl _) _) _⟩
        · have hq1 : decide ((b1 : Int) < 128) = false := by simp; omega
          by_cases hh : 191 < b1
          · have hq2 : decide ((191 : Int) < (b1 : Int)) = true := by simp; omega
            have HV := Lib.hid (show fullB (bs s) = true by rw [HF2.out, fullN, ← HX.out]; simp [Lib.accLo, Lib.accHi]; omega)
            go_enter Tryd.func50, Tryd.ntmps50
            go_wp2
            go_quiet (fail)
            go_wp2
            go_ret
            rw [HV.out]
            exact ⟨rfl, below_drewN ((Below.refl _ _).alloc (Nat.le_refl _) _) _⟩
          · have hq2 : decide ((191 : Int) < (b1 : Int)) = false := by simp; omega
            by_cases h2 : 2 < s.size
            · have hg2 := get_bs s 2 h2
              have hb2 := by_lt (bs s) 2
              have hd2 : decide ((2 : Int) < (s.size : Int)) = true := by simp; omega
              obtain ⟨b2, hb⟩ : ∃ b, b = by' (bs s) 2 := ⟨_, rfl⟩
              have hF3 := HF2.out
              rw [← hb] at hg2 hb2 hF3
              have HF2 := Lib.hid hF3
              clear hb hF3
              by_cases hl2 : b2 < 128
              · have hq3 : decide ((b2 : Int) < 128) = true := by simp; omega
                have HV := Lib.hid (show fullB (bs s) = true by rw [HF2.out, fullN, ← HX.out]; simp [Lib.accLo, Lib.accHi]; omega)
                go_enter Tryd.func50, Tryd.ntmps50
                go_wp2
                go_quiet (fail)
                go_wp2
                go_ret
                rw [HV.out]
                exact ⟨rfl, below_drewN ((Below.refl _ _).alloc (Nat.le_refl _) _) _⟩
              · have hq3 : decide ((b2 : Int) < 128) = false := by simp; omega
                by_cases hh2 : 191 < b2
                · have hq4 : decide ((191 : Int) < (b2 : Int)) = true := by simp; omega
                  have HV := Lib.hid (show fullB (bs s) = true by rw [HF2.out, fullN, ← HX.out]; simp [Lib.accLo, Lib.accHi]; omega)
                  go_enter Tryd.func50, Tryd.ntmps50
                  go_wp2
                  go_quiet (fail)
                  go_wp2
                  go_ret
                  rw [HV.out]
                  exact ⟨rfl, below_drewN ((Below.refl _ _).alloc (Nat.le_refl _) _) _⟩
                · have hq4 : decide ((191 : Int) < (b2 : Int)) = false := by simp; omega
                  have HV := Lib.hid (show fullB (bs s) = false by rw [HF2.out, fullN, ← HX.out]; simp [Lib.accLo, Lib.accHi]; omega)
                  go_enter Tryd.func50, Tryd.ntmps50
                  go_wp2
                  go_quiet (fail)
                  go_wp2
                  go_ret
                  rw [HV.out]
                  exact ⟨rfl, below_drewN ((Below.refl _ _).alloc (Nat.le_refl _) _) _⟩
            · have hd2 : decide ((2 : Int) < (s.size : Int)) = false := by simp; omega
              have HV := Lib.hid (show fullB (bs s) = false by rw [HF2.out, fullN, ← HX.out]; simp [Lib.accLo, Lib.accHi]; omega)
              go_enter Tryd.func50, Tryd.ntmps50
              go_wp2
              go_quiet (fail)
              go_wp2
              go_ret
              rw [HV.out]
              exact ⟨rfl, below_drewN ((Below.refl _ _).alloc (Nat.le_refl _) _) _⟩
      · have hd1 : decide ((1 : Int) < (s.size : Int)) = false := by simp; omega
        have hd2 : decide ((2 : Int) < (s.size : Int)) = false := by simp; omega
        have HV := Lib.hid (show fullB (bs s) = false by rw [HF.out, fullN, ← HX.out]; simp [Lib.accLo, Lib.accHi]; omega)
        go_enter Tryd.func50, Tryd.ntmps50
        go_wp2
        go_quiet (fail)
        go_wp2
        go_ret
        rw [HV.out]
        exact ⟨rfl, below_drewN ((Below.refl _ _).alloc (Nat.le_refl _) _) _⟩
  · by_cases hz : 4 ≤ s.size
    · have HV := Lib.hid (show fullB (bs s) = true by rw [HF.out, fullN, ← HX.out]; simp only [Bool.or_eq_true, decide_eq_true_eq]; left; left; omega)
      go_enter Tryd.func50, Tryd.ntmps50
      go_wp2
      go_ret
      rw [HV.out]
      exact ⟨rfl, Below.refl _ _⟩
    · have ha1 : w.cell? ⟨1, 8, none⟩ = some (.int .u8 128) := (tab_acc HT.out 4 (by omega)).1
      have ha2 : w.cell? ⟨1, 9, none⟩ = some (.int .u8 143) := (tab_acc HT.out 4 (by omega)).2
      by_cases h1 : 1 < s.size
      · have hg1 := get_bs s 1 h1
        have hb1 := by_lt (bs s) 1
        have hd1 : decide ((1 : Int) < (s.size : Int)) = true := by simp; omega
        obtain ⟨b1, hb⟩ : ∃ b, b = by' (bs s) 1 := ⟨_, rfl⟩
        rw [← hb] at hg1 hb1
        have hF2 := HF.out
        rw [← hb] at hF2
        have HF2 := Lib.hid hF2
        clear hb hF2
        by_cases hl : b1 < 128
        · have hq1 : decide ((b1 : Int) < 128) = true := by simp; omega
          have HV := Lib.hid (show fullB (bs s) = true by rw [HF2.out, fullN, ← HX.out]; simp [Lib.accLo, Lib.accHi]; omega)
          go_enter Tryd.func50, Tryd.ntmps50
          go_wp2
          go_quiet (fail)
          go_wp2
          go_ret
          rw [HV.out]
          exact ⟨rfl, below_drewN ((Below.refl _ _).alloc (Nat.le_refl _) _) _⟩
        · have hq1 : decide ((b1 : Int) < 128) = false := by simp; omega
          by_cases hh : 143 < b1
          · have hq2 : decide ((143 : Int) < (b1 : Int)) = true := by simp; omega
            have HV := Lib.hid (show fullB (bs s) = true by rw [HF2.out, fullN, ← HX.out]; simp [Lib.accLo, Lib.accHi]; omega)
            go_enter Tryd.func50, Tryd.ntmps50
            go_wp2
            go_quiet (fail)
            go_wp2
            go_ret
            rw [HV.out]
            exact ⟨rfl, below_drewN ((Below.refl _ _).alloc (Nat.le_refl _) _) _⟩
          · have hq2 : decide ((143 : Int) < (b1 : Int)) = false := by simp; omega
            by_cases h2 : 2 < s.size
            · have hg2 := get_bs s 2 h2
              have hb2 := by_lt (bs s) 2
              have hd2 : decide ((2 : Int) < (s.size : Int)) = true := by simp; omega
              obtain ⟨b2, hb⟩ : ∃ b, b = by' (bs s) 2 := ⟨_, rfl⟩
              have hF3 := HF2.out
              rw [← hb] at hg2 hb2 hF3
              have HF2 := Lib.hid hF3
              clear hb hF3
              by_cases hl2 : b2 < 128
              · have hq3 : decide ((b2 : Int) < 128) = true := by simp; omega
                have HV := Lib.hid (show fullB (bs s) = true by rw [HF2.out, fullN, ← HX.out]; simp [Lib.accLo, Lib.accHi]; omega)
                go_enter Tryd.func50, Tryd.ntmps50
                go_wp2
                go_quiet (fail)
                go_wp2
                go_ret
                rw [HV.out]
                exact ⟨rfl, below_drewN ((Below.refl _ _).alloc (Nat.le_refl _) _) _⟩
              · have hq3 : decide ((b2 : Int) < 128) = false := by simp; omega
                by_cases hh2 : 191 < b2
                · have hq4 : decide ((191 : Int) < (b2 : Int)) = true := by simp; omega
                  have HV := Lib.hid (show fullB (bs s) = true by rw [HF2.out, fullN, ← HX.out]; simp [Lib.accLo, Lib.accHi]; omega)
                  go_enter Tryd.func50, Tryd.ntmps50
                  go_wp2
                  go_quiet (fail)
                  go_wp2
                  go_ret
                  rw [HV.out]
                  exact ⟨rfl, below_drewN ((Below.refl _ _).alloc (Nat.le_refl _) _) _⟩
                · have hq4 : decide ((191 : Int) < (b2 : Int)) = false := by simp; omega
                  have HV := Lib.hid (show fullB (bs s) = false by rw [HF2.out, fullN, ← HX.out]; simp [Lib.accLo, Lib.accHi]; omega)
                  go_enter Tryd.func50, Tryd.ntmps50
                  go_wp2
                  go_quiet (fail)
                  go_wp2
                  go_ret
                  rw [HV.out]
                  exact ⟨rfl, below_drewN ((Below.refl _ _).alloc (Nat.le_refl _) _) _⟩
            · have hd2 : decide ((2 : Int) < (s.size : Int)) = false := by simp; omega
              have HV := Lib.hid (show fullB (bs s) = false by rw [HF2.out, fullN, ← HX.out]; simp [Lib.accLo, Lib.accHi]; omega)
              go_enter Tryd.func50, Tryd.ntmps50
              go_wp2
              go_quiet (fail)
              go_wp2
              go_ret
              rw [HV.out]
              exact ⟨rfl, below_drewN ((Below.refl _ _).alloc (Nat.le_refl _) _) _⟩
      · have hd1 : decide ((1 : Int) < (s.size : Int)) = false := by simp; omega
        have hd2 : decide ((2 : Int) < (s.size : Int)) = false := by simp; omega
        have HV := Lib.hid (show fullB (bs s) = false by rw [HF.out, fullN, ← HX.out]; simp [Lib.accLo, Lib.accHi]; omega)
        go_enter Tryd.func50, Tryd.ntmps50
        go_wp2
        go_quiet (fail)
        go_wp2
        go_ret
        rw [HV.out]
        exact ⟨rfl, below_drewN ((Below.refl _ _).alloc (Nat.le_refl _) _) _⟩
end Go.Proofs.YtkknmbkfiiidmaaDoor
