/-
  The contracts of Encode, the document's and the program's: on every list of int32 that is read, the text of the runes' right sequences.
-/
import Derived.Test.YtnfjohlbpbonhaaDoorKit
import Derived.Test.YtnfjohlbpbonhaaDoorMay
namespace Go.Proofs.YtnfjohlbpbonhaaDoor
open Go.RowKit

theorem info_u8 : (Tryd.prog.info? 5).map (fun i => (i.zero, i.size, i.bytes)) = some (some (.int .u8 0), 1, 1) := by kernel_rfl

/-- The bytes of a list of runes. -/
def encZ (rs : List Int) : List Int := rs.flatMap Lib.encodeRuneZ
def encS (rs : List Int) : ByteArray := strOfNums (encZ rs)

theorem encZ_le (rs : List Int) : (encZ rs).length ≤ 4 * rs.length := by
  induction rs with
  | nil => simp [encZ]
  | cons r rs ih =>
    have := (Lib.encodeRuneZ_length r).2
    simp [encZ] at ih ⊢
    omega

theorem encZ_snoc (rs : List Int) (k : Nat) (h : k < rs.length) : encZ (rs.take (k + 1)) = encZ (rs.take k) ++ Lib.encodeRuneZ (rs[k]?.getD 0) := by
  rw [List.take_succ_eq_append_getElem h]
  unfold encZ
  rw [List.flatMap_append, List.getElem?_eq_getElem h]
  simp only [List.flatMap_cons, List.flatMap_nil, List.append_nil, Option.getD_some]

theorem encZ_take_le (rs : List Int) (k : Nat) (h : k ≤ rs.length) : (encZ (rs.take k)).length ≤ 4 * k := by
  have := encZ_le (rs.take k)
  simp at this
  omega

/-- What the document encodes for a rune: FFFD's sequence where it may not be. -/
def fixR (r : Int) : Int := if mayB r = true then r else 65533
theorem seqZ_fix (r : Int) : seqZ (fixR r) = Lib.encodeRuneZ r := by
  unfold fixR
  by_cases h : mayB r = true
  · rw [if_pos h]
    have h' := of_decide_eq_true h
    by_cases h1 : r < 128
    · rw [seqZ_one h1, Lib.encodeRuneZ_one (by omega) (by omega)]
    · by_cases h2 : r < 2048
      · rw [seqZ_two h1 h2, Lib.encodeRuneZ_two (by omega) (by omega)]
      · by_cases h3 : r < 65536
        · rw [seqZ_three h2 h3, Lib.encodeRuneZ_three (by omega)]
        · rw [seqZ_four h3, Lib.encodeRuneZ_four (by omega) (by omega)]
  · rw [if_neg h, Lib.encodeRuneZ_bad]
    · rfl
    · have h' := of_decide_eq_false (Bool.eq_false_iff.2 h)
      omega

theorem appended (rs : List Int) (k : Nat) (h : k < rs.length) : (encZ (rs.take k)).length + (seqZ (fixR (rs[k]?.getD 0))).length = (encZ (rs.take (k + 1))).length ∧
    (encZ (rs.take k)).map (Value.int .u8) ++ (seqZ (fixR (rs[k]?.getD 0))).map (Value.int .u8) = (encZ (rs.take (k + 1))).map (Value.int .u8) := by
  rw [encZ_snoc rs k h, seqZ_fix]
  simp

theorem seqZ_le (r : Int) : 1 ≤ (seqZ r).length ∧ (seqZ r).length ≤ 4 := by
  unfold seqZ
  split
  · simp
  · split
    · simp
    · split <;> simp

set_option maxHeartbeats 1000000 in
theorem refEncode_any (ao : Option Addr) (cap : Nat) (rs : List Int) (w : World) (hr : ReadsI w .i32 ao rs) (hreach : rs.length * 4 ≤ 140737488351232) :
    Calls Tryd.prog 53 #[.slice ao rs.length cap] w fun e w' => e = .returned (.string (encS rs)) ∧ Below w.heap.size w w' := by
  obtain ⟨i0, hi, hz0, hz1, hz2⟩ := info_parts info_u8
  rcases hr with rfl | ⟨b, off, rfl, hc⟩
  · have hcv := run_convert_bytes_nil (P := Tryd.prog) w 57 5 Tryd.underlying57 Tryd.underlying5 0 0 9 Tryd.underlying9
    go_enter Tryd.func53, Tryd.ntmps53
    go_wp2
    refine wp_loop_rounds 1 ?_
    rw [rounds_succ]
    go_wp2
    go_ret
    exact ⟨rfl, Below.refl _ _⟩
  · go_enter Tryd.func53, Tryd.ntmps53
    go_wp2
    go_loopw [3, 4] (fun v i wr => ∃ k : Nat, k ≤ rs.length ∧ i = .int .i64 k ∧ wr.ownsRow w.heap.size 5 1 v (encZ (rs.take k)).length ((encZ (rs.take k)).map (Value.int .u8)) ∧ Below w.heap.size w wr)
      (fun _ i _ => rs.length - (intOf i).toNat)
    case atStart => exact ⟨0, Nat.zero_le _, rfl, World.ownsRow_nil _ _ _ _, Below.refl _ _⟩
    case round =>
      obtain ⟨k, hk, rfl, hown, hbel⟩ := hrel
      by_cases hlt : k < rs.length
      · have hcx : wr.cell? ⟨b, off + k, none⟩ = some (.int .i32 (rs[k]?.getD 0)) := (hbel.cell (p := ⟨b, off + k, none⟩) (World.block_lt_of_cell? w ⟨b, off + k, none⟩ (hc k hlt))).trans (hc k hlt)
        have hlen := encZ_take_le rs k hk
        have hl1 := (seqZ_le (fixR (rs[k]?.getD 0))).2
        have hap := appended rs k hlt
        obtain ⟨x, hx⟩ : ∃ x, x = rs[k]?.getD 0 := ⟨_, rfl⟩
        rw [← hx] at hcx hl1 hap
        clear hc
        have HX := Lib.hid hx
        have HA := Lib.hid hap
        clear hx hap
        by_cases hm : mayB x = true
        · have HF := Lib.hid (show fixR x = x from if_pos hm)
          rw [HF.out] at hl1
          have hb := of_decide_eq_true hm
          go_wp2_with (first | (go_at_call 47; refine (may_any _ _).mono ?_; rintro e w' ⟨rfl, rfl⟩) | (go_at_call 49; refine (sequence_any _ _ (by omega) (by omega)).mono ?_; rintro e w' ⟨rfl, rfl⟩) | (at_builtin; refine wpList_append_own _ rfl _ _ 57 rfl w.heap.size 5 i0 (.int .u8 0) 1 1 Tryd.underlying57 hi hz0 hz1 hz2 rfl (by decide) _ _ _ rfl (hown.alloc _) ⟨wr.heap.size, 0, none⟩ (seqZ x).length (seqZ x).length ((seqZ x).map (Value.int .u8)) rfl (by simp) (cells_new _ _ _) (map_oneCell _ _) ?c1 ?c2 ?c3 ?_))
          case c1 => unfold maxLen; omega
          case c2 => omega
          case c3 => have := hbel.size; simp; omega
          intro v' w1 hown' hgrow _
          have hA := HA.out
          rw [HF.out] at hA
          rw [hA.1, hA.2] at hown'
          have hsz := hbel.size
          have hb1 : Below w.heap.size w w1 := (hbel.alloc hsz _).grown hgrow (by simp; omega) (fun q e => (hown.lt q e).1)
          clear hA hgrow hown hbel hsz
          go_wp2
          go_roundw
          case rel => exact ⟨k + 1, by omega, by go_num, hown', hb1⟩
          case measure => simp [intOf]; omega
        · have hm' : mayB x = false := Bool.eq_false_iff.2 hm
          have HF := Lib.hid (show fixR x = 65533 from if_neg hm)
          rw [HF.out] at hl1
          clear hm
          go_wp2_with (first | (go_at_call 47; refine (may_any _ _).mono ?_; rintro e w' ⟨rfl, rfl⟩) | (go_at_call 49; refine (sequence_any _ _ (by omega) (by omega)).mono ?_; rintro e w' ⟨rfl, rfl⟩) | (at_builtin; refine wpList_append_own _ rfl _ _ 57 rfl w.heap.size 5 i0 (.int .u8 0) 1 1 Tryd.underlying57 hi hz0 hz1 hz2 rfl (by decide) _ _ _ rfl (hown.alloc _) ⟨wr.heap.size, 0, none⟩ (seqZ 65533).length (seqZ 65533).length ((seqZ 65533).map (Value.int .u8)) rfl (by simp) (cells_new _ _ _) (map_oneCell _ _) ?d1 ?d2 ?d3 ?_))
          case d1 => unfold maxLen; omega
          case d2 => omega
          case d3 => have := hbel.size; simp; omega
          intro v' w1 hown' hgrow _
          have hA := HA.out
          rw [HF.out] at hA
          rw [hA.1, hA.2] at hown'
          have hsz := hbel.size
          have hb1 : Below w.heap.size w w1 := (hbel.alloc hsz _).grown hgrow (by simp; omega) (fun q e => (hown.lt q e).1)
          clear hA hgrow hown hbel hsz
          go_wp2
          go_roundw
          case rel => exact ⟨k + 1, by omega, by go_num, hown', hb1⟩
          case measure => simp [intOf]; omega
      · obtain rfl : k = rs.length := by omega
        rw [List.take_length] at hown
        have hcv := conv_own (dst := 9) Tryd.underlying57 Tryd.underlying5 Tryd.underlying9 hown
        go_wp2
        go_ret
        exact ⟨rfl, hbel⟩
end Go.Proofs.YtnfjohlbpbonhaaDoor
