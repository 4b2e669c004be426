/-
  The walk of the law UtfEncodes.
-/
import Derived.Test.YtnfjohlbpbonhaaEncode
import Derived.Laws.AppendOwnNone
import Derived.BigQuiet
import Derived.Deep.QuietTactic
namespace Go.Proofs.Ytnfjohlbpbonhaa
open Go.RowKit

theorem info_i32 : (Try.prog.info? 21).map (fun i => (i.zero, i.size, i.bytes)) = some (some (.int .i32 0), 1, 4) := by kernel_rfl

/-- the marks behind the list -/
def marks (k : Nat) : List Int := (List.range k).map fun i : Nat => 9728 + (i : Int)
theorem marks_succ (k : Nat) : marks (k + 1) = marks k ++ [9728 + (k : Int)] := by simp [marks, List.range_succ]
theorem marks_length (k : Nat) : (marks k).length = k := by simp [marks]

theorem reads_prefix {w : World} {base : Nat} {e : TypeId} {k : IntKind} {g n cap : Nat} {zs ys : List Int} (h : w.ownsRow base e 1 (.slice (some ⟨g, 0, none⟩) n cap) n ((zs ++ ys).map (Value.int k))) : ReadsI w k (some ⟨g, 0, none⟩) zs := by
  refine .inr ⟨g, 0, rfl, fun j hj => ?_⟩
  have hl : (zs ++ ys).length = n := by have := h.1; simpa using this
  have := h.cells (g := g) rfl j (.int k (zs[j]?.getD 0)) (by rw [List.getElem?_map, List.getElem?_append_left hj]; simp [hj])
  rwa [Addr.add_lit] at this

set_option maxHeartbeats 2000000 in
theorem law_any (x : Option Addr) (cap : Nat) (rs : List Int) (w : World) (hc : SrcI w .i32 x cap rs) (hwf : ∀ r ∈ rs, -2147483648 ≤ r ∧ r ≤ 2147483647) (hreach : rs.length * 4 ≤ 140737488351232) :
    Calls Try.prog 3 #[.slice x rs.length cap] w fun e w' => e = .returned (.bool true) ∧ Below w.heap.size w w' := by
  obtain ⟨i0, hi, hz0, hz1, hz2⟩ := info_parts info_i32
  have HW := Lib.hid hwf
  have HC := Lib.hid hc
  have HR := Lib.hid hc.reads
  clear hwf hc
  go_enter Try.func3, Try.ntmps3
  go_wp2_with (at_builtin; refine wpList_append_src rfl _ _ 22 rfl w.heap.size 21 i0 (.int .i32 0) 1 4 Try.underlying22 hi hz0 hz1 hz2 rfl (by decide) _ _ _ rfl (World.ownsRow_nil _ _ _ _) x rs.length cap (rs.map (Value.int .i32)) rfl (by simp) HC.out.append (map_oneCell _ _) ?c1 ?c2 ?c3 ?_)
  case c1 => unfold maxLen; omega
  case c2 => omega
  case c3 => exact Nat.le_refl _
  intro v' w1 hown' hgrow _
  have hb1 : Below w.heap.size w w1 := (Below.refl _ w).grown hgrow (Nat.le_refl _) (fun q e => by simp [Value.ownBlock] at e)
  try simp only [Nat.zero_add, List.nil_append] at hown'
  clear hgrow
  go_wp2
  go_loopw [3, 4] (fun v i wr => ∃ k : Nat, k ≤ 5 ∧ i = .int .i64 k ∧ wr.ownsRow w.heap.size 21 1 v (rs.length + k) ((rs ++ marks k).map (Value.int .i32)) ∧ Below w.heap.size w wr)
    (fun _ i _ => 5 - (intOf i).toNat)
  case atStart => exact ⟨0, by omega, rfl, by simpa [marks] using hown', hb1⟩
  case round =>
    obtain ⟨k, hk, rfl, hown, hbel⟩ := hrel
    by_cases hlt : k < 5
    · have hsz := hbel.size
      go_wp2_with (at_builtin; refine wpList_append_own _ rfl _ _ 22 rfl w.heap.size 21 i0 (.int .i32 0) 1 4 Try.underlying22 hi hz0 hz1 hz2 rfl (by decide) _ _ _ rfl (hown.alloc _) ⟨wr.heap.size, 0, none⟩ 1 1 [.int .i32 (9728 + k)] rfl (by simp) (cells_new _ _ _) (by simp [Value.oneCell']) (by unfold maxLen; omega) (by omega) (by simp; omega) ?_; intro v' w1 hown' hgrow _)
      have hb1 : Below w.heap.size w w1 := (hbel.alloc hsz _).grown hgrow (by simp; omega) (fun q e => (hown.lt q e).1)
      have hm := marks_succ k
      go_roundw
      case rel => exact ⟨k + 1, by omega, by go_num, by rw [hm]; simpa [Nat.add_assoc] using hown', hb1⟩
      case measure => simp [intOf]; omega
    · obtain rfl : k = 5 := by omega
      obtain ⟨g, cap', hv, hcap⟩ : ∃ g cap', u3 = .slice (some ⟨g, 0, none⟩) (rs.length + 5) cap' ∧ rs.length + 5 ≤ cap' := by
        rcases hown.2 with ⟨_, h0⟩ | ⟨g, cap', _, hv, _, _, hc, _⟩
        · omega
        · exact ⟨g, cap', hv, hc⟩
      subst hv
      have hR := reads_prefix hown
      go_wp2_with (go_at_call 4; refine (encode_any _ _ rs _ hR HW.out hreach).mono ?_; rintro e w2 ⟨rfl, hb2⟩)
      have hown2 := owns_below hown hb2 (Nat.le_refl _)
      have hr2 := HR.out.below (hbel.trans (hb2.mono hbel.size)) (Nat.le_refl _)
      have hbel2 := hbel.trans (hb2.mono hbel.size)
      clear hown hb2 hbel hb1 hown' hR
      go_loopw [7] (fun i w3 => ∃ k : Nat, k ≤ rs.length + 5 ∧ i = .int .i64 k ∧ Below w2.heap.size w2 w3)
        (fun i _ => rs.length + 5 - (intOf i).toNat)
      case atStart => exact ⟨0, by omega, rfl, Below.refl _ _⟩
      case round =>
        obtain ⟨k, hk, rfl, hb3⟩ := hrel
        by_cases hlt : k < rs.length + 5
        · have hown3 := owns_below hown2 hb3 (Nat.le_refl _)
          by_cases hkn : k < rs.length
          · rcases hr2.below hb3 (Nat.le_refl _) with h0 | ⟨b, off, hx, hcells⟩
            · subst h0; simp at hkn
            subst hx
            have hc1 := hcells k hkn
            have hc2 : wr.cell? ⟨g, k, none⟩ = some (.int .i32 (rs[k]?.getD 0)) := by
              have := hown3.cellAt k (by omega)
              rw [this, List.getElem?_map, List.getElem?_append_left hkn]
              simp [hkn]
            clear hcells hown3 hown2 hr2
            obtain ⟨y, hy⟩ : ∃ y, y = rs[k]?.getD 0 := ⟨_, rfl⟩
            rw [← hy] at hc1 hc2
            have HY := Lib.hid hy
            clear hy
            have hd1 : decide (k < rs.length) = true := by simp; omega
            have hd2 : decide (rs.length ≤ k) = false := by simp; omega
            go_wp2_with fail
            go_quiet (fail)
            go_wp2
            go_roundw
            case rel => exact ⟨k + 1, by omega, by go_num, below_drewN hb3 _⟩
            case measure => simp [intOf]; omega
          · have hc2 : wr.cell? ⟨g, k, none⟩ = some (.int .i32 (9728 + (k : Int) - (rs.length : Int))) := by
              have := hown3.cellAt k (by omega)
              rw [this, List.getElem?_map, List.getElem?_append_right (by omega)]
              simp [marks, show k - rs.length < 5 by omega]
              omega
            clear hown3 hown2 hr2
            have hd1 : decide (k < rs.length) = false := by simp; omega
            have hd2 : decide (rs.length ≤ k) = true := by simp; omega
            have hx1 : rs.length ≤ k := by omega
            have hx2 : k < rs.length + 5 := by omega
            go_wp2_with fail
            go_quiet (fail)
            go_wp2
            go_roundw
            case rel => exact ⟨k + 1, by omega, by go_num, below_drewN hb3 _⟩
            case measure => simp [intOf]; omega
        · obtain rfl : k = rs.length + 5 := by omega
          have hown3 := owns_below hown2 hb3 (Nat.le_refl _)
          have hr3 := hr2.below hb3 (Nat.le_refl _)
          have hbel3 := hbel2.trans (hb3.mono hbel2.size)
          clear hown2 hr2 hbel2 hb3
          go_wp2_with (go_at_call 5; refine (refEncode_any _ _ rs _ hr3 hreach).mono ?_; rintro e w4 ⟨rfl, hb4⟩)
          have hown4 := owns_below hown3 hb4 (Nat.le_refl _)
          have hr4 := hr3.below hb4 (Nat.le_refl _)
          have hbel4 := hbel3.trans (hb4.mono hbel3.size)
          clear hown3 hr3 hbel3 hb4
          have hg4 := (hown4.lt g rfl).2
          clear hcap
          go_loopw [8, 9] (fun v i w5 => ∃ k : Nat, ∃ ys : List Int, k ≤ rs.length ∧ i = .int .i64 k ∧ ys.length = k ∧ Hid (∀ r ∈ ys, -2147483648 ≤ r ∧ r ≤ 2147483647) ∧
              w5.ownsRow w.heap.size 21 1 (.slice (some ⟨g, 0, none⟩) (rs.length + 5) cap') (rs.length + 5) ((ys ++ (rs.drop k ++ marks 5)).map (Value.int .i32)) ∧
              w5.ownsRow w4.heap.size 21 1 v k (ys.map (Value.int .i32)) ∧ Below w.heap.size w w5 ∧ w4.heap.size ≤ w5.heap.size)
            (fun _ i _ => rs.length - (intOf i).toNat)
          case atStart => exact ⟨0, [], by omega, rfl, rfl, (by intro r hr; cases hr), by simpa using hown4, World.ownsRow_nil _ _ _ _, hbel4, Nat.le_refl _⟩
          case round =>
            obtain ⟨k, ys, hk, rfl, hys, hwf, hin, hnow, hb5, hsz5⟩ := hrel
            by_cases hlt : k < rs.length
            · have hc1 : wr.cell? ⟨g, k, none⟩ = some (.int .i32 (rs[k]?.getD 0)) := by
                have := hin.cellAt k (by omega)
                rw [this, List.getElem?_map, List.getElem?_append_right (by omega), List.getElem?_append_left (by simp; omega)]
                simp [hys, hlt]
              have hf1 := hin.frozenAt k
              obtain ⟨x0, hx0⟩ : ∃ x0, x0 = rs[k]?.getD 0 := ⟨_, rfl⟩
              rw [← hx0] at hc1
              have HX := Lib.hid hx0
              have HYS := Lib.hid hys
              clear hx0 hys
              go_wp2_with (at_builtin; refine wpList_append_own _ rfl _ _ 22 rfl w4.heap.size 21 i0 (.int .i32 0) 1 4 Try.underlying22 hi hz0 hz1 hz2 rfl (by decide) _ _ _ rfl ((ownsRow_setCell_below hnow (a := ⟨g, k, none⟩) hg4 _).alloc _) ⟨wr.heap.size, 0, none⟩ 1 1 [.int .i32 (bits .xor .i32 x0 (wrap32 (k + 1)))] rfl (by simp) (cells_new_set _ _ _ _ _) (by simp [Value.oneCell']) (by unfold maxLen; omega) (by omega) (by rw [World.size_alloc, size_setCell]; omega) ?_; intro v2 w6 hnow' hgrow _)
              have hyb := bounds_i32 (wf_bits .xor .i32 x0 (wrap32 (k + 1)))
              obtain ⟨y0, hy0⟩ : ∃ y0, y0 = bits .xor .i32 x0 (wrap32 (k + 1)) := ⟨_, rfl⟩
              rw [← hy0] at hnow' hgrow hyb
              have hdrop : rs.drop k = x0 :: rs.drop (k + 1) := by
                have h0 := HX.out
                rw [List.drop_eq_getElem_cons hlt, h0]
                simp [hlt]
              rw [hdrop, List.cons_append] at hin
              have hst := (stored_nums (y := y0) hin HYS.out).alloc (.cells #[.int .i32 y0] 21)
              have hne : (Value.slice (some ⟨g, 0, none⟩) (rs.length + 5) cap').ownBlock ≠ u8.ownBlock := by
                intro e
                have := (hnow.lt g e.symm).1
                omega
              have hin2 := hst.kept hgrow (.inr hne)
              have hb6 : Below w.heap.size w w6 := ((hb5.setCell (p := ⟨g, k, none⟩) (hown4.lt g rfl).1 _).alloc (by rw [size_setCell]; exact hb5.size) _).grown hgrow (by rw [World.size_alloc, size_setCell]; have := hb5.size; omega) (fun q e => by have := (hnow.lt q e).1; have := hbel4.size; omega)
              have hsz6 : w4.heap.size ≤ w6.heap.size := by have := hgrow.size; rw [World.size_alloc, size_setCell] at this; omega
              have hys := HYS.out
              clear hin hst hnow hgrow hb5 hc1 hf1 hne hown4 hr4 hbel4 hg4 hdrop
              have HY0 := Lib.hid hy0
              clear hy0
              go_wp2
              go_roundw
              case rel =>
                refine ⟨k + 1, ys ++ [y0], by omega, by go_num, by simp [hys], ?_, by simpa using hin2, by simpa using hnow', hb6, hsz6⟩
                intro r hr
                rcases List.mem_append.1 hr with h | h
                · exact hwf.out r h
                · rw [List.mem_singleton.1 h]; exact hyb
              case measure => simp [intOf]; omega
            · obtain rfl : k = rs.length := by omega
              rw [List.drop_length, List.nil_append] at hin
              obtain ⟨ao, c2, rfl, hl2, hR2⟩ := ReadsI.owned hnow
              clear hl2
              have hR1 := reads_prefix hin
              have hr5 := HR.out.below hb5 (Nat.le_refl _)
              have hE1 := fun w7 (h : ReadsI w7 .i32 (some ⟨g, 0, none⟩) ys) => encode_any (some ⟨g, 0, none⟩) cap' ys w7 h hwf.out (by omega)
              have hE2 := fun w7 (h : ReadsI w7 .i32 ao ys) => refEncode_any ao c2 ys w7 h (by omega)
              rw [hys] at hE1 hE2
              have HE1 := Lib.hid hE1
              have HE2 := Lib.hid hE2
              rw [hys]
              clear hE1 hE2 hys hin hnow hown4 hr4 hbel4 hg4
              go_wp2_with fail
              (with_reducible refine (HE1.out _ hR1).mono ?_)
              rintro e w7 ⟨rfl, hb7⟩
              have hR3 := hR2.below hb7 (Nat.le_refl _)
              have hr7 := hr5.below hb7 (Nat.le_refl _)
              have hb7' := hb5.trans (hb7.mono hb5.size)
              clear hR1 hR2 hr5 hb5 hb7
              go_wp2_with fail
              (with_reducible refine (HE2.out _ hR3).mono ?_)
              rintro e w8 ⟨rfl, hb8⟩
              have hr8 := hr7.below hb8 (Nat.le_refl _)
              have hb8' := hb7'.trans (hb8.mono hb7'.size)
              clear hR3 hr7 hb7' hb8
              go_wp2_with fail
              (with_reducible refine (refEncode_any _ _ rs _ hr8 hreach).mono ?_)
              rintro e w9 ⟨rfl, hb9⟩
              go_wp2
              go_ret
              exact ⟨rfl, hb8'.trans (hb9.mono hb8'.size)⟩
end Go.Proofs.Ytnfjohlbpbonhaa
