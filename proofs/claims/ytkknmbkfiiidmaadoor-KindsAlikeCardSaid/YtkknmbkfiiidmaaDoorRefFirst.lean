/-
  The contracts of the document's number, begins and First.
-/
import Derived.Test.YtkknmbkfiiidmaaDoorPendFn
import Derived.Test.YtkknmbkfiiidmaaDoorMay
namespace Go.Proofs.YtkknmbkfiiidmaaDoor
open Go.RowKit

/-- what w bytes say -/
def numZ (l : Bs) (w : Nat) : Int :=
  if w = 1 then (by' l 0 : Int) else if w = 2 then ((by' l 0 : Int) - 192) * 64 + (by' l 1 : Int) % 64
  else if w = 3 then (((by' l 0 : Int) - 224) * 64 + (by' l 1 : Int) % 64) * 64 + (by' l 2 : Int) % 64
  else ((((by' l 0 : Int) - 240) * 64 + (by' l 1 : Int) % 64) * 64 + (by' l 2 : Int) % 64) * 64 + (by' l 3 : Int) % 64

theorem numZ_1 (l : Bs) : numZ l 1 = (by' l 0 : Int) := rfl
theorem numZ_2 (l : Bs) : numZ l 2 = ((by' l 0 : Int) - 192) * 64 + (by' l 1 : Int) % 64 := rfl
theorem numZ_3 (l : Bs) : numZ l 3 = (((by' l 0 : Int) - 224) * 64 + (by' l 1 : Int) % 64) * 64 + (by' l 2 : Int) % 64 := rfl
theorem numZ_4 (l : Bs) : numZ l 4 = ((((by' l 0 : Int) - 240) * 64 + (by' l 1 : Int) % 64) * 64 + (by' l 2 : Int) % 64) * 64 + (by' l 3 : Int) % 64 := rfl

set_option maxHeartbeats 1000000 in
theorem number_any (s : ByteArray) (k : Nat) (h1 : 1 ≤ k) (h4 : k ≤ 4) (hk : k ≤ s.size) (w : World) :
    Calls Tryd.prog 60 #[.string s, .int .i64 k] w fun e w' => e = .returned (.int .i32 (numZ (bs s) k)) ∧ Below w.heap.size w w' := by
  have hg0 := get_bs s 0 (by omega)
  have hb0 := by_lt (bs s) 0
  have hn1 := numZ_1 (bs s)
  have hn2 := numZ_2 (bs s)
  have hn3 := numZ_3 (bs s)
  have hn4 := numZ_4 (bs s)
  obtain ⟨b0, hb⟩ : ∃ b, b = by' (bs s) 0 := ⟨_, rfl⟩
  rw [← hb] at hg0 hb0 hn1 hn2 hn3 hn4
  clear hb
  obtain rfl | rfl | rfl | rfl : k = 1 ∨ k = 2 ∨ k = 3 ∨ k = 4 := by omega
  · have HN := Lib.hid hn1
    clear hn1 hn2 hn3 hn4
    go_enter Tryd.func60, Tryd.ntmps60
    go_wp2
    go_ret
    rw [HN.out]
    exact ⟨rfl, Below.refl _ _⟩
  · have hg1 := get_bs s 1 (by omega)
    have hb1 := by_lt (bs s) 1
    obtain ⟨b1, hb⟩ : ∃ b, b = by' (bs s) 1 := ⟨_, rfl⟩
    rw [← hb] at hg1 hb1 hn2
    clear hb
    have HN := Lib.hid hn2
    clear hn1 hn2 hn3 hn4
    go_enter Tryd.func60, Tryd.ntmps60
    go_wp2
    go_quiet (fail)
    go_wp2
    refine wp_loop_rounds 2 ?_
    rw [rounds_succ]
    go_wp2
    rw [rounds_succ]
    go_wp2
    go_ret
    rw [HN.out]
    exact ⟨rfl, below_drewN (Below.refl _ _) _⟩
  · have hg1 := get_bs s 1 (by omega)
    have hb1 := by_lt (bs s) 1
    obtain ⟨b1, hb⟩ : ∃ b, b = by' (bs s) 1 := ⟨_, rfl⟩
    rw [← hb] at hg1 hb1 hn3
    clear hb
    have hg2 := get_bs s 2 (by omega)
    have hb2 := by_lt (bs s) 2
    obtain ⟨b2, hb⟩ : ∃ b, b = by' (bs s) 2 := ⟨_, rfl⟩
    rw [← hb] at hg2 hb2 hn3
    clear hb
    have HN := Lib.hid hn3
    clear hn1 hn2 hn3 hn4
    go_enter Tryd.func60, Tryd.ntmps60
    go_wp2
    go_quiet (fail)
    go_wp2
    refine wp_loop_rounds 3 ?_
    rw [rounds_succ]
    go_wp2
    rw [rounds_succ]
    go_wp2
    rw [rounds_succ]
    go_wp2
    go_ret
    rw [HN.out]
    exact ⟨rfl, below_drewN (Below.refl _ _) _⟩
  · have hg1 := get_bs s 1 (by omega)
    have hb1 := by_lt (bs s) 1
    obtain ⟨b1, hb⟩ : ∃ b, b = by' (bs s) 1 := ⟨_, rfl⟩
    rw [← hb] at hg1 hb1 hn4
    clear hb
    have hg2 := get_bs s 2 (by omega)
    have hb2 := by_lt (bs s) 2
    obtain ⟨b2, hb⟩ : ∃ b, b = by' (bs s) 2 := ⟨_, rfl⟩
    rw [← hb] at hg2 hb2 hn4
    clear hb
    have hg3 := get_bs s 3 (by omega)
    have hb3 := by_lt (bs s) 3
    obtain ⟨b3, hb⟩ : ∃ b, b = by' (bs s) 3 := ⟨_, rfl⟩
    rw [← hb] at hg3 hb3 hn4
    clear hb
    have HN := Lib.hid hn4
    clear hn1 hn2 hn3 hn4
    go_enter Tryd.func60, Tryd.ntmps60
    go_wp2
    go_quiet (fail)
    go_wp2
    refine wp_loop_rounds 4 ?_
    rw [rounds_succ]
    go_wp2
    rw [rounds_succ]
    go_wp2
    rw [rounds_succ]
    go_wp2
    rw [rounds_succ]
    go_wp2
    go_ret
    rw [HN.out]
    exact ⟨rfl, below_drewN (Below.refl _ _) _⟩

/-- does a text begin with these bytes? -/
def begZ (l : Bs) (zs : List Int) : Bool := decide (zs.length ≤ l.length ∧ ∀ i, i < zs.length → (by' l i : Int) = zs[i]?.getD 0)

set_option maxHeartbeats 1000000 in
theorem refbegins_any (s : ByteArray) (hs : s.size ≤ 140737488351232) (ao : Option Addr) (cap : Nat) (zs : List Int) (w : World) (hr : ReadsI w .u8 ao zs) (hl : zs.length ≤ 4) :
    Calls Tryd.prog 62 #[.string s, .slice ao zs.length cap] w fun e w' => e = .returned (.bool (begZ (bs s) zs)) ∧ Below w.heap.size w w' := by
  by_cases hlen : s.size < zs.length
  · have HB := Lib.hid (show begZ (bs s) zs = false from decide_eq_false (fun h => by have := h.1; rw [← size_bs] at this; omega))
    go_enter Tryd.func62, Tryd.ntmps62
    go_wp2
    go_ret
    rw [HB.out]
    exact ⟨rfl, Below.refl _ _⟩
  rcases hr with rfl | ⟨b, off, rfl, hc⟩
  · have HB := Lib.hid (show begZ (bs s) [] = true from decide_eq_true ⟨by simp, fun i hi => absurd hi (by simp)⟩)
    go_enter Tryd.func62, Tryd.ntmps62
    go_wp2
    refine wp_loop_rounds 1 ?_
    rw [rounds_succ]
    go_wp2
    go_ret
    rw [HB.out]
    exact ⟨rfl, Below.refl _ _⟩
  · have HC := Lib.hid hc
    clear hc
    go_enter Tryd.func62, Tryd.ntmps62
    go_wp2
    go_loopw [5] (fun i wr => ∃ k : Nat, k ≤ zs.length ∧ i = .int .i64 k ∧ Hid (∀ j, j < k → (by' (bs s) j : Int) = zs[j]?.getD 0) ∧ Below w.heap.size w wr) (fun i _ => zs.length - (intOf i).toNat)
    case atStart => exact ⟨0, Nat.zero_le _, rfl, (show Hid _ from fun j h => absurd h (by omega)), Below.refl _ _⟩
    case round =>
      obtain ⟨k, hk, rfl, hall, hb⟩ := hrel
      by_cases hlt : k < zs.length
      · have hg := get_bs s k (by omega)
        have hcx : wr.cell? ⟨b, off + k, none⟩ = some (.int .u8 (zs[k]?.getD 0)) := (hb.cell (p := ⟨b, off + k, none⟩) (World.block_lt_of_cell? w ⟨b, off + k, none⟩ (HC.out k hlt))).trans (HC.out k hlt)
        have hks : k < s.size := by omega
        obtain ⟨x, hx⟩ : ∃ x, x = zs[k]?.getD 0 := ⟨_, rfl⟩
        rw [← hx] at hcx
        by_cases he : (by' (bs s) k : Int) = x
        · have hq : ((by' (bs s) k : Int) != x) = false := by simp [he]
          have HE := Lib.hid (he.trans hx)
          clear he hx
          go_wp2_with fail
          go_quiet (fail)
          go_wp2
          go_roundw
          case rel =>
            refine ⟨k + 1, by omega, by go_num, (show Hid _ from fun j h => ?_), below_drewN hb _⟩
            by_cases e : j = k
            · subst e; exact HE.out
            · exact hall.out j (by omega)
          case measure => simp [intOf]; omega
        · have hq : ((by' (bs s) k : Int) != x) = true := by simp [he]
          have HB := Lib.hid (show begZ (bs s) zs = false from decide_eq_false (fun h => he ((h.2 k hlt).trans hx.symm)))
          clear he hx
          go_wp2_with fail
          go_quiet (fail)
          go_wp2
          go_ret
          rw [HB.out]
          exact ⟨rfl, below_drewN hb _⟩
      · obtain rfl : k = zs.length := by omega
        have HB := Lib.hid (show begZ (bs s) zs = true from decide_eq_true ⟨by rw [← size_bs]; omega, hall.out⟩)
        go_wp2
        go_ret
        rw [HB.out]
        exact ⟨rfl, hb⟩
end Go.Proofs.YtkknmbkfiiidmaaDoor
