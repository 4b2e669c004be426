/-
  The contract of the program's Encode: on every list of int32 that is read, the text of the runes' right sequences.
-/
import Derived.Test.YtkknmbkfiiidmaaDoorEnc
import Derived.Test.YtkknmbkfiiidmaaDoorShelf
namespace Go.Proofs.YtkknmbkfiiidmaaDoor
open Go.RowKit

theorem appended2 (rs : List Int) (k : Nat) (h : k < rs.length) : (encZ (rs.take k)).length + (Lib.runeCells (rs[k]?.getD 0)).length = (encZ (rs.take (k + 1))).length ∧
    (encZ (rs.take k)).map (Value.int .u8) ++ Lib.runeCells (rs[k]?.getD 0) = (encZ (rs.take (k + 1))).map (Value.int .u8) := by
  rw [encZ_snoc rs k h]
  simp [Lib.runeCells]

theorem append_any (B : Nat) (v : Value) (n : Nat) (xs : List Value) (r : Int) (hr : -2147483648 ≤ r ∧ r ≤ 2147483647) (w : World) (hown : w.ownsRow B 5 1 v n xs) (hlen : n + 4 ≤ 140737488355328) (hBw : B ≤ w.heap.size) :
    Calls Tryd.prog 59 #[v, .int .i32 r] w fun e w' => ∃ v', e = .returned v' ∧ w'.ownsRow B 5 1 v' (n + (Lib.runeCells r).length) (xs ++ Lib.runeCells r) ∧ Below B w w' := by
  refine (Tryd.utf8_AppendRune_plain B v n xs r hr.1 hr.2 w hown hlen hBw).mono ?_
  rintro e w' ⟨v', rfl, ho, o, hg⟩
  refine ⟨v', rfl, ho, ((Below.refl B w).alloc hBw o).grown hg (by simp; omega) (fun q e => (hown.lt q e).1)⟩

set_option maxHeartbeats 1000000 in
theorem encode_any (ao : Option Addr) (cap : Nat) (rs : List Int) (w : World) (hr : ReadsI w .i32 ao rs) (hwf : ∀ r ∈ rs, -2147483648 ≤ r ∧ r ≤ 2147483647) (hreach : rs.length * 4 ≤ 140737488351232) :
    Calls Tryd.prog 51 #[.slice ao rs.length cap] w fun e w' => e = .returned (.string (encS rs)) ∧ Below w.heap.size w w' := by
  rcases hr with rfl | ⟨b, off, rfl, hc⟩
  · have hcv := run_convert_bytes_nil (P := Tryd.prog) w 54 5 Tryd.underlying54 Tryd.underlying5 0 0 9 Tryd.underlying9
    clear hwf
    go_enter Tryd.func51, Tryd.ntmps51
    go_wp2
    refine wp_loop_rounds 1 ?_
    rw [rounds_succ]
    go_wp2
    go_ret
    exact ⟨rfl, Below.refl _ _⟩
  · have HW := Lib.hid hwf
    have HC := Lib.hid hc
    clear hwf hc
    go_enter Tryd.func51, Tryd.ntmps51
    go_wp2
    go_loopw [3, 8] (fun v i wr => ∃ k : Nat, k ≤ rs.length ∧ i = .int .i64 k ∧ wr.ownsRow w.heap.size 5 1 v (encZ (rs.take k)).length ((encZ (rs.take k)).map (Value.int .u8)) ∧ Below w.heap.size w wr)
      (fun _ i _ => rs.length - (intOf i).toNat)
    case atStart => exact ⟨0, Nat.zero_le _, rfl, World.ownsRow_nil _ _ _ _, Below.refl _ _⟩
    case round =>
      obtain ⟨k, hk, rfl, hown, hbel⟩ := hrel
      by_cases hlt : k < rs.length
      · have hcx : wr.cell? ⟨b, off + k, none⟩ = some (.int .i32 (rs[k]?.getD 0)) := (hbel.cell (p := ⟨b, off + k, none⟩) (World.block_lt_of_cell? w ⟨b, off + k, none⟩ (HC.out k hlt))).trans (HC.out k hlt)
        have hlen := encZ_take_le rs k hk
        have hap := appended2 rs k hlt
        have hx1 : -2147483648 ≤ rs[k]?.getD 0 ∧ rs[k]?.getD 0 ≤ 2147483647 := HW.out _ (by simp [hlt])
        obtain ⟨x, hx⟩ : ∃ x, x = rs[k]?.getD 0 := ⟨_, rfl⟩
        rw [← hx] at hcx hap hx1
        have HX := Lib.hid hx
        have HA := Lib.hid hap
        clear hx hap
        go_wp2_with (go_at_call 59; refine (append_any w.heap.size _ _ _ _ hx1 _ hown (by omega) (by have := hbel.size; omega)).mono ?_; rintro e w1 ⟨v', rfl, hown', hb1⟩)
        have hA := HA.out
        rw [hA.1, hA.2] at hown'
        have hb2 := hbel.trans hb1
        clear hA hown hbel hb1
        go_roundw
        case rel => exact ⟨k + 1, by omega, by go_num, hown', hb2⟩
        case measure => simp [intOf]; omega
      · obtain rfl : k = rs.length := by omega
        rw [List.take_length] at hown
        have hcv := conv_own (dst := 9) Tryd.underlying54 Tryd.underlying5 Tryd.underlying9 hown
        go_wp2
        go_ret
        exact ⟨rfl, hbel⟩
end Go.Proofs.YtkknmbkfiiidmaaDoor
