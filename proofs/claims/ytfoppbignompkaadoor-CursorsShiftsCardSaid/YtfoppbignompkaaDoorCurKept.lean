/-
  The law's kept: its contract.
-/
import Derived.Test.YtfoppbignompkaaDoorCurSame
namespace Go.Proofs.YtfoppbignompkaaDoor
open Go.RowKit

set_option maxRecDepth 100000 in
set_option maxHeartbeats 8000000 in
theorem keptC_any (ao : Option Addr) (cap n g c : Nat) (zs : List Cu) (hn : n ≤ 4398046510976) (hc : n + 12 ≤ c) (w : World) (hA : ReadsC w ao zs) (hR : SpareC w g n zs) :
    Calls Tryd.prog 17 #[.slice (some ⟨g, 0, none⟩) n c, .slice ao n cap] w fun r w' => r = .returned (.bool true) ∧ Below w.heap.size w w' := by
  have HL := Lib.hid hR.1
  have HR := Lib.hid hR
  have HA := Lib.hid hA
  have gc := guard_cur
  have hs0 : (0 : Int) ≤ (n : Int) + 12 := by omega
  have hs1 : (n : Int) + 12 ≤ (c : Int) := by omega
  clear hR hA
  go_enter Tryd.func17, Tryd.ntmps17
  go_wp2_with fail
  go_loopw [6] (fun i wr => ∃ k : Nat, k ≤ n + 12 ∧ i = .int .i64 (k : Nat) ∧ Below w.heap.size w wr) (fun i _ => n + 12 - (intOf i).toNat)
  case atStart => exact ⟨0, Nat.zero_le _, rfl, Below.refl _ _⟩
  case round =>
    obtain ⟨k, hk, rfl, hb⟩ := hrel
    by_cases hlt : k < n + 12
    · have hR := (HR.out.below hb).2 k hlt
      have x0 := hR 0 (by omega)
      have x1 := hR 1 (by omega)
      have x2 := hR 2 (by omega)
      have x3 := hR 3 (by omega)
      have hki : (k : Int) < (n : Int) + 12 := by omega
      have hk0 : (0 : Int) ≤ (k : Int) := by omega
      clear hR
      by_cases hkn : k < n
      · have hkz : k < zs.length := by rw [HL.out]; exact hkn
        have hd : decide (k < n) = true := decide_eq_true hkn
        have hd2 : decide (n ≤ k) = false := decide_eq_false (by omega)
        rw [sksC_lt hkz] at x0 x1 x2 x3
        rcases (HA.out.below hb) with h0 | ⟨g', o', rfl, hc'⟩
        · rw [h0] at hkz; simp at hkz
        · obtain ⟨y0, y1, y2, y3⟩ := hc' k hkz
          obtain ⟨c, hcc⟩ : ∃ c, zs[k]?.getD cuZ = c := ⟨_, rfl⟩
          rw [hcc] at x0 x1 x2 x3 y0 y1 y2 y3
          obtain ⟨i, a, d, q⟩ := c
          simp only [cuC] at x0 x1 x2 x3 y0 y1 y2 y3
          replace x0 : wr.cell? ⟨g, k * 4, none⟩ = some (.int .u32 i) := x0
          replace x1 : wr.cell? ⟨g, k * 4 + 1, none⟩ = some (.int .i64 a) := x1
          replace x2 : wr.cell? ⟨g, k * 4 + 2, none⟩ = some (.int .i64 d) := x2
          replace x3 : wr.cell? ⟨g, k * 4 + 3, none⟩ = some (.int .i64 q) := x3
          have hq := fun (w : World) => same_self i a d q w
          clear hc' hcc hkz
          go_wp2_with fail
          have k0 := Later.cell x0
          have k1 := Later.cell x1
          have k2 := Later.cell x2
          have k3 := Later.cell x3
          have k4 := Later.cell y0
          have k5 := Later.cell y1
          have k6 := Later.cell y2
          have k7 := Later.cell y3
          clear x0 x1 x2 x3 y0 y1 y2 y3
          refine wp_region_later (by kernel_rfl) (by kernel_rfl) ?_
          repeat (go_big_quiet_step (fail))
          refine wpQuiet_nil ?_
          intro _ hw'
          obtain ⟨pq, hw''⟩ := hw'
          subst hw''
          go_wp2_with fail
          exact ⟨⟨k + 1, by omega, by go_num, nx hb pq.hb⟩, by simp [intOf]; omega⟩
      · have hd : decide (k < n) = false := decide_eq_false hkn
        have hd2 : decide (n ≤ k) = true := decide_eq_true (by omega)
        rw [sksC_ge (by rw [HL.out]; omega) (by rw [HL.out]; exact hlt), HL.out] at x0 x1 x2 x3
        obtain ⟨V, hV⟩ : ∃ V : Int, ((900 + (k - n) : Nat) : Int) = V := ⟨_, rfl⟩
        replace x0 : wr.cell? ⟨g, k * 4, none⟩ = some (.int .u32 V) := hV ▸ x0
        replace x1 : wr.cell? ⟨g, k * 4 + 1, none⟩ = some (.int .i64 7) := x1
        replace x2 : wr.cell? ⟨g, k * 4 + 2, none⟩ = some (.int .i64 0) := x2
        replace x3 : wr.cell? ⟨g, k * 4 + 3, none⟩ = some (.int .i64 0) := x3
        have hq := fun (w : World) => same_self V 7 0 0 w
        have hcv : (900 + (k : Int) - (n : Int)) % 4294967296 = V := by omega
        clear hV
        go_wp2_with fail
        have k0 := Later.cell x0
        have k1 := Later.cell x1
        have k2 := Later.cell x2
        have k3 := Later.cell x3
        clear x0 x1 x2 x3
        refine wp_region_later (by kernel_rfl) (by kernel_rfl) ?_
        repeat (go_big_quiet_step (fail))
        refine wpQuiet_nil ?_
        intro _ hw'
        obtain ⟨pq, hw''⟩ := hw'
        subst hw''
        go_wp2_with fail
        exact ⟨⟨k + 1, by omega, by go_num, nx hb pq.hb⟩, by simp [intOf]; omega⟩
    · obtain rfl : k = n + 12 := by omega
      go_wp2_with fail
      go_ret
      exact ⟨rfl, hb⟩
end Go.Proofs.YtfoppbignompkaaDoor
