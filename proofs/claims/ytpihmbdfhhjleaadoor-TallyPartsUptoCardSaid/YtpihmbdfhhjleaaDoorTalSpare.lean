/-
  The contracts of SpareInts, EqInts, KeptInts.
-/
import Derived.Test.YtpihmbdfhhjleaaDoorTalPlaces
namespace Go.Proofs.YtpihmbdfhhjleaaDoor
open Go.RowKit

/-- a row of numbers in a block of its own -/
def IRow (W : World) (g n : Nat) (f : Nat → Int) : Prop := (∀ i, i < n → W.cell? ⟨g, i, none⟩ = some (.int .i64 (f i))) ∧ (∀ j, W.frozen? ⟨g, j, none⟩ = false) ∧ g < W.heap.size
theorem IRow.keep {W W' : World} {g n : Nat} {f : Nat → Int} (H : IRow W g n f) (hb : Below W.heap.size W W') : IRow W' g n f :=
  ⟨fun i hi => cell_keep (H.1 i hi) hb, fun j => (hb.frozen (p := ⟨g, j, none⟩) H.2.2).trans (H.2.1 j), Nat.lt_of_lt_of_le H.2.2 hb.size⟩
theorem IRow.set {W : World} {g n : Nat} {f : Nat → Int} (H : IRow W g n f) (i : Nat) (hi : i < n) (y : Int) : IRow (W.setCell ⟨g, i, none⟩ (.int .i64 y)) g n (fun k => if k = i then y else f k) := by
  refine ⟨fun k hk => ?_, fun j => by simpa using H.2.1 j, by rw [size_setCell]; exact H.2.2⟩
  by_cases e : k = i
  · subst e
    simp only [if_true]
    exact sc_same _ _ _ _ (H.1 k hk)
  · simp only [if_neg e]
    rw [sc_other _ _ _ _ (off_ne (fun h => e h.symm))]
    exact H.1 k hk
theorem IRow.congr {W : World} {g n : Nat} {f f' : Nat → Int} (H : IRow W g n f) (h : ∀ i, i < n → f i = f' i) : IRow W g n f' :=
  ⟨fun i hi => by rw [← h i hi]; exact H.1 i hi, H.2.1, H.2.2⟩

theorem imade_at (n i : Nat) (hi : i < n) : (madeCells #[.int .i64 0] n)[i]? = some (.int .i64 0) := by
  unfold madeCells
  rw [Array.getElem?_map, Array.getElem?_range, if_pos hi]
  simp only [Option.map_some]
  have h2 : i % 1 = 0 := by omega
  show some (#[Value.int .i64 0][i % 1]!) = _
  rw [h2]
  rfl
theorem make_int (n : Nat) (hn : n ≤ 17592186044416) (w : World) : (Instr.makeSlice 42 (.int .i64 (n : Int)) (.int .i64 (n : Int))).run Tryd.prog w =
    .ok (.slice (some ⟨w.heap.size, 0, none⟩) n n) (w.alloc (.cells (madeCells #[.int .i64 0] n) 3)) := by
  obtain ⟨i0, hi, hz0, hz1, hz2⟩ := info_parts info_i64
  have := run_make (P := Tryd.prog) w 42 3 i0 (.int .i64 0) Tryd.underlying42 hi hz0 .i64 .i64 (n : Int) (n : Int) (by omega) (Int.le_refl _) (by rw [hz2]; omega) (by omega)
  simpa [hz1, Value.cells] using this

/-- what a spare row holds behind k rounds -/
def fs (zs : List Int) (k i : Nat) : Int := if i < k then (if i < zs.length then zs[i]?.getD 0 else 7700 + (i : Int)) else 0
theorem fs_step (zs : List Int) (k : Nat) (y : Int) (hy : y = if k < zs.length then zs[k]?.getD 0 else 7700 + (k : Int)) (i : Nat) : (if i = k then y else fs zs k i) = fs zs (k + 1) i := by
  unfold fs
  by_cases e : i = k
  · subst e
    rw [if_pos rfl, if_pos (by omega), hy]
  · rw [if_neg e]
    by_cases h : i < k
    · rw [if_pos h, if_pos (show i < k + 1 by omega)]
    · rw [if_neg h, if_neg (show ¬ i < k + 1 by omega)]

set_option maxHeartbeats 1000000 in
theorem spare_any (ao : Option Addr) (cap n : Nat) (zs : List Int) (hl : zs.length = n) (hn : n ≤ 1048576) (w : World) (hA : SrcI w .i64 ao cap zs) :
    Calls Tryd.prog 24 #[.slice ao n cap] w fun r w' => r = .returned (.slice (some ⟨w.heap.size, 0, none⟩) n (n + 9)) ∧ IRow w' w.heap.size (n + 9) (fs zs (n + 9)) ∧ Below w.heap.size w w' := by
  have HA := Lib.hid hA
  have HL := Lib.hid hl
  have hmk := fun w => make_int (n + 9) (by omega) w
  rw [show ((n + 9 : Nat) : Int) = (n : Int) + 9 from by omega] at hmk
  clear hA hl
  go_enter Tryd.func24, Tryd.ntmps24
  go_wp2_with fail
  go_loopw [4] (fun i wr => ∃ k, k ≤ n + 9 ∧ i = .int .i64 (k : Nat) ∧ Hid (IRow wr w.heap.size (n + 9) (fs zs k)) ∧ Below w.heap.size w wr) (fun i _ => n + 9 - (intOf i).toNat)
  case atStart =>
    exact ⟨0, Nat.zero_le _, rfl, Lib.hid (⟨fun i hi => by rw [World.cell?_alloc_at _ _ _ _ rfl, imade_at _ _ hi]; rfl, fun j => World.frozen?_alloc_at _ _ _ _ rfl, by rw [World.size_alloc]; omega⟩ : IRow _ _ _ _), al (Below.refl _ _) _⟩
  case round =>
    obtain ⟨k, hk, rfl, hx, hb⟩ := hrel
    by_cases hkn : k < n + 9
    · have e0 := hx.out.1 k hkn
      have z0 := hx.out.2.1 k
      have hkm : (k : Int) < (n : Int) + 9 := by omega
      have hk0 : (0 : Int) ≤ (k : Int) := by omega
      by_cases hlt : k < n
      · rcases HA.out.reads with h0 | ⟨g, o, rfl, hc⟩
        · have := congrArg List.length h0
          rw [HL.out] at this
          simp at this
          omega
        · have hck := hc k (by rw [HL.out]; exact hlt)
          have hltg := World.block_lt_of_cell? w _ hck
          have hck := (hb.cell (p := ⟨g, o + k, none⟩) hltg).trans hck
          have hki : (k : Int) < (n : Int) := by omega
          have HY := Lib.hid (fun i => fs_step zs k _ (show zs[k]?.getD 0 = if k < zs.length then zs[k]?.getD 0 else 7700 + (k : Int) from by rw [if_pos (by rw [HL.out]; exact hlt)]) i)
          obtain ⟨y, hy⟩ : ∃ y, zs[k]?.getD 0 = y := ⟨_, rfl⟩
          rw [hy] at hck HY
          clear hc hy
          go_wp2_with fail
          exact ⟨⟨k + 1, by omega, by go_num, Lib.hid ((hx.out.set k hkn y).congr (fun i _ => HY.out i)), hb.setCell (Nat.le_refl _) _⟩, by simp [intOf]; omega⟩
      · have HY := Lib.hid (fun i => fs_step zs k (7700 + (k : Int)) (show 7700 + (k : Int) = if k < zs.length then zs[k]?.getD 0 else 7700 + (k : Int) from by rw [if_neg (by rw [HL.out]; exact hlt)]) i)
        go_wp2_with fail
        exact ⟨⟨k + 1, by omega, by go_num, Lib.hid ((hx.out.set k hkn (7700 + (k : Int))).congr (fun i _ => HY.out i)), hb.setCell (Nat.le_refl _) _⟩, by simp [intOf]; omega⟩
    · obtain rfl : k = n + 9 := by omega
      have hs1 : (0 : Int) ≤ (n : Int) := by omega
      have hs2 : (n : Int) ≤ (n : Int) + 9 := by omega
      go_wp2_with fail
      go_ret
      exact ⟨rfl, hx.out, hb⟩

set_option maxHeartbeats 1000000 in
theorem eqInts_any (ao bo : Option Addr) (n ca cb : Nat) (zs : List Int) (hl : zs.length = n) (hn : n ≤ 1048576) (w : World) (hA : ReadsI w .i64 ao zs) (hB : ReadsI w .i64 bo zs) :
    Calls Tryd.prog 37 #[.slice ao n ca, .slice bo n cb] w fun r w' => r = .returned (.bool true) ∧ Below w.heap.size w w' := by
  have HA := Lib.hid hA
  have HB := Lib.hid hB
  have HL := Lib.hid hl
  clear hA hB hl
  go_enter Tryd.func37, Tryd.ntmps37
  go_wp2_with fail
  go_loopw [5] (fun i wr => ∃ k, k ≤ n ∧ i = .int .i64 (k : Nat) ∧ Below w.heap.size w wr) (fun i _ => n - (intOf i).toNat)
  case atStart => exact ⟨0, Nat.zero_le _, rfl, Below.refl _ _⟩
  case round =>
    obtain ⟨k, hk, rfl, hb⟩ := hrel
    by_cases hlt : k < n
    · have hne : zs ≠ [] := by intro e; have := HL.out; rw [e] at this; simp at this; omega
      rcases (HA.out.below hb (Nat.le_refl _)) with h0 | ⟨g, o, rfl, hc⟩
      · exact absurd h0 hne
      · rcases (HB.out.below hb (Nat.le_refl _)) with h0 | ⟨g', o', rfl, hc'⟩
        · exact absurd h0 hne
        · have e0 := hc k (by rw [HL.out]; exact hlt)
          have f0 := hc' k (by rw [HL.out]; exact hlt)
          obtain ⟨y, hy⟩ : ∃ y, zs[k]?.getD 0 = y := ⟨_, rfl⟩
          rw [hy] at e0 f0
          have hki : (k : Int) < (n : Int) := by omega
          have hk0 : (0 : Int) ≤ (k : Int) := by omega
          clear hc hc' hy hne
          go_wp2_with fail
          go_quiet (fail)
          all_goals go_wp2_with fail
          exact ⟨⟨k + 1, by omega, by go_num, below_drewN hb _⟩, by simp [intOf]; omega⟩
    · go_wp2_with fail
      go_ret
      exact ⟨rfl, hb⟩

theorem IRow.reads {W : World} {g n : Nat} {zs : List Int} (H : IRow W g (n + 9) (fs zs (n + 9))) (hl : zs.length = n) : ReadsI W .i64 (some ⟨g, 0, none⟩) zs := by
  refine .inr ⟨g, 0, rfl, fun j hj => ?_⟩
  rw [Nat.zero_add, H.1 j (by omega)]
  unfold fs
  rw [if_pos (by omega), if_pos hj]

set_option maxHeartbeats 1000000 in
theorem kept_any (ao : Option Addr) (cap n g : Nat) (zs : List Int) (hl : zs.length = n) (hn : n ≤ 1048576) (w : World) (hA : ReadsI w .i64 ao zs) (hR : IRow w g (n + 9) (fs zs (n + 9))) :
    Calls Tryd.prog 26 #[.slice (some ⟨g, 0, none⟩) n (n + 9), .slice ao n cap] w fun r w' => r = .returned (.bool true) ∧ Below w.heap.size w w' := by
  have HE := Lib.hid (eqInts_any (some ⟨g, 0, none⟩) ao n (n + 9) cap zs hl hn w (hR.reads hl) hA)
  have HR := Lib.hid hR
  have HL := Lib.hid hl
  clear hA hR hl
  have hs1 : (0 : Int) ≤ (n : Int) + 9 := by omega
  go_enter Tryd.func26, Tryd.ntmps26
  go_wp2_with fail
  (with_reducible refine HE.out.mono ?_)
  rintro r w1 ⟨rfl, hb⟩
  have HR := Lib.hid (HR.out.keep hb)
  go_wp2_with fail
  go_loopw [6] (fun i wr => ∃ k, n ≤ k ∧ k ≤ n + 9 ∧ i = .int .i64 (k : Nat) ∧ wr = w1) (fun i _ => n + 9 - (intOf i).toNat)
  case atStart => exact ⟨n, Nat.le_refl _, by omega, rfl, rfl⟩
  case round =>
    obtain ⟨k, hk0, hk, rfl, hww⟩ := hrel
    subst hww
    by_cases hkn : k < n + 9
    · have e0 := HR.out.1 k hkn
      have hfs : fs zs (n + 9) k = 7700 + (k : Int) := by unfold fs; rw [if_pos hkn, if_neg (by rw [HL.out]; omega)]
      rw [hfs] at e0
      have hki : (k : Int) < (n : Int) + 9 := by omega
      have hk1 : (0 : Int) ≤ (k : Int) := by omega
      clear hfs
      go_wp2_with fail
      exact ⟨⟨k + 1, by omega, by omega, by go_num, trivial⟩, by simp [intOf]; omega⟩
    · go_wp2_with fail
      go_ret
      exact ⟨rfl, hb⟩
end Go.Proofs.YtpihmbdfhhjleaaDoor
