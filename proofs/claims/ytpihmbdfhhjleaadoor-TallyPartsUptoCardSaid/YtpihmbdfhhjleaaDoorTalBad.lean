/-
  Parts of the program and of the document at places that do not rise within the text: no tally, and the error.
-/
import Derived.Test.YtpihmbdfhhjleaaDoorTalRParts
import Derived.Test.YtpihmbdfhhjleaaDoorTalSpare
namespace Go.Proofs.YtpihmbdfhhjleaaDoor
open Go.RowKit

/-- the place ahead, of any numbers -/
def fromI (zs : List Int) (k : Nat) : Int := if k = 0 then 0 else zs[k - 1]?.getD 0
theorem fromI_succ (zs : List Int) (k : Nat) : fromI zs (k + 1) = zs[k]?.getD 0 := by simp [fromI]
def goodI (zs : List Int) (m k : Nat) : Prop := fromI zs k ≤ zs[k]?.getD 0 ∧ zs[k]?.getD 0 ≤ (m : Int)
theorem fromI_nonneg (zs : List Int) (m : Nat) : ∀ k, (∀ i, i < k → goodI zs m i) → 0 ≤ fromI zs k ∧ fromI zs k ≤ (m : Int)
  | 0, _ => by simp [fromI]
  | k + 1, h => by
    have h1 := fromI_nonneg zs m k (fun i hi => h i (by omega))
    have h2 := h k (by omega)
    unfold goodI at h2
    rw [fromI_succ]
    omega

/-- either all places rise within the text, or there is a first that does not -/
theorem places_split (zs : List Int) (m : Nat) : (∃ cs, zs = zsI cs ∧ Rise cs m) ∨ ∃ k, k < zs.length ∧ (∀ i, i < k → goodI zs m i) ∧ ¬ goodI zs m k := by
  have key : ∀ n, n ≤ zs.length → (∀ i, i < n → goodI zs m i) ∨ ∃ k, k < n ∧ (∀ i, i < k → goodI zs m i) ∧ ¬ goodI zs m k := by
    intro n
    induction n with
    | zero => exact fun _ => .inl (fun i hi => by omega)
    | succ n ih =>
      intro hn
      rcases ih (by omega) with h | ⟨k, hk, h1, h2⟩
      · by_cases hg : goodI zs m n
        · exact .inl (fun i hi => by
            by_cases e : i = n
            · subst e; exact hg
            · exact h i (by omega))
        · exact .inr ⟨n, by omega, h, hg⟩
      · exact .inr ⟨k, by omega, h1, h2⟩
  rcases key zs.length (Nat.le_refl _) with h | h
  · left
    have hnn : ∀ i, i < zs.length → 0 ≤ zs[i]?.getD 0 := fun i hi => by
      have h1 := fromI_nonneg zs m i (fun j hj => h j (by omega))
      have h2 := h i hi
      unfold goodI at h2
      omega
    have hget : ∀ i : Nat, (zs.map Int.toNat)[i]?.getD 0 = (zs[i]?.getD (0 : Int)).toNat := fun i => by
      rw [List.getElem?_map]
      cases zs[i]? <;> rfl
    have hpf : ∀ i, pf (zs.map Int.toNat) i = (fromI zs i).toNat := fun i => by
      unfold pf fromI
      split
      · rfl
      · exact hget _
    refine ⟨zs.map Int.toNat, ?_, ?_⟩
    · unfold zsI
      rw [List.map_map]
      conv => lhs; rw [← List.map_id zs]
      apply List.map_congr_left
      intro z hz
      obtain ⟨i, hi, rfl⟩ := List.getElem_of_mem hz
      have := hnn i hi
      rw [List.getElem?_eq_getElem hi] at this
      simp at this ⊢
      omega
    · intro i hi
      have hi2 : i < zs.length := by simpa using hi
      have h2 := h i hi2
      unfold goodI at h2
      rw [hpf, hget]
      omega
  · exact .inr h

set_option maxHeartbeats 800000 in
theorem parts_bad (s : ByteArray) (hs : s.size ≤ 1048576) (ao : Option Addr) (cap n k : Nat) (zs : List Int) (hl : zs.length = n) (hn : n ≤ 1048576) (hk : k < n) (hg : ∀ i, i < k → goodI zs s.size i) (hbad : ¬ goodI zs s.size k) (w : World) (hA : SrcI w .i64 ao cap zs) :
    Calls Tryd.prog 25 #[.string s, .slice ao n cap] w fun r w' => r = .returned (.tuple #[.slice none 0 0, .int .i64 2]) ∧ w' = w := by
  have HA := Lib.hid hA
  have HL := Lib.hid hl
  have HG := Lib.hid hg
  have HB := Lib.hid hbad
  clear hA hl hg hbad
  go_enter Tryd.func25, Tryd.ntmps25
  go_wp2_with fail
  go_loopw [6, 14] (fun f i wr => ∃ j, j ≤ k ∧ i = .int .i64 (j : Nat) ∧ f = .int .i64 (fromI zs j) ∧ wr = w) (fun _ i _ => n - (intOf i).toNat)
  case atStart => exact ⟨0, Nat.zero_le _, rfl, rfl, rfl⟩
  case round =>
    obtain ⟨j, hj, rfl, rfl, hww⟩ := hrel
    subst hww
    rcases HA.out.reads with h0 | ⟨g, o, rfl, hc⟩
    · have := congrArg List.length h0
      rw [HL.out] at this
      simp at this
      omega
    · have hck := hc j (by rw [HL.out]; omega)
      have hfs := fromI_succ zs j
      have hgj := fun h => HG.out j h
      have hbk := HB.out
      unfold goodI at hgj hbk
      have hki : (j : Int) < (n : Int) := by omega
      have hk0 : (0 : Int) ≤ (j : Int) := by omega
      by_cases hjk : j < k
      · have hgj := hgj hjk
        obtain ⟨z, hz⟩ : ∃ z, zs[j]?.getD 0 = z := ⟨_, rfl⟩
        obtain ⟨q, hq⟩ : ∃ q, fromI zs j = q := ⟨_, rfl⟩
        rw [hz] at hck hgj hfs
        rw [hq] at hgj ⊢
        have HFS := Lib.hid hfs
        clear hz hq hfs hc hbk
        go_wp2_with fail
        go_roundw
        case rel => exact ⟨j + 1, by omega, by go_num, by rw [HFS.out], trivial⟩
        case measure => simp [intOf]; omega
      · obtain rfl : j = k := by omega
        obtain ⟨z, hz⟩ : ∃ z, zs[j]?.getD 0 = z := ⟨_, rfl⟩
        obtain ⟨q, hq⟩ : ∃ q, fromI zs j = q := ⟨_, rfl⟩
        rw [hz] at hck hbk
        rw [hq] at hbk ⊢
        clear hz hq hfs hc hgj
        by_cases hlt : z < q
        · go_wp2_with fail
          go_ret2
          exact ⟨rfl, rfl⟩
        · have hgt : (s.size : Int) < z := by omega
          go_wp2_with fail
          go_ret2
          exact ⟨rfl, rfl⟩

set_option maxHeartbeats 800000 in
theorem rparts_bad (s : ByteArray) (hs : s.size ≤ 1048576) (ao : Option Addr) (cap n k : Nat) (zs : List Int) (hl : zs.length = n) (hn : n ≤ 1048576) (hk : k < n) (hg : ∀ i, i < k → goodI zs s.size i) (hbad : ¬ goodI zs s.size k) (w : World) (hA : SrcI w .i64 ao cap zs) :
    Calls Tryd.prog 23 #[.string s, .slice ao n cap] w fun r w' => r = .returned (.tuple #[.slice none 0 0, .int .i64 2]) ∧ Below w.heap.size w w' := by
  obtain ⟨i0, hi, hz0, hz1, hz2⟩ := info_parts info_tally
  have HA := Lib.hid hA
  have HL := Lib.hid hl
  have HG := Lib.hid hg
  have HB := Lib.hid hbad
  clear hA hl hg hbad
  go_enter Tryd.func23, Tryd.ntmps23
  go_wp2_with fail
  go_loopw [6, 7, 8] (fun v f i wr' => ∃ j xs, j ≤ k ∧ i = .int .i64 (j : Nat) ∧ f = .int .i64 (fromI zs j) ∧ Hid (wr'.ownsRow w.heap.size 23 5 v j (rowC xs)) ∧ Below w.heap.size w wr') (fun _ _ i _ => n - (intOf i).toNat)
  case atStart => exact ⟨0, [], Nat.zero_le _, rfl, rfl, World.ownsRow_nil _ _ _ _, Below.refl _ _⟩
  case round =>
    obtain ⟨j, xs, hj, rfl, rfl, hown, hb⟩ := hrel
    rcases HA.out.reads with h0 | ⟨g, o, rfl, hc⟩
    · have := congrArg List.length h0
      rw [HL.out] at this
      simp at this
      omega
    · have hckw := hc j (by rw [HL.out]; omega)
      have hltg := World.block_lt_of_cell? w _ hckw
      have hck := (hb.cell (p := ⟨g, o + j, none⟩) hltg).trans hckw
      have hfs := fromI_succ zs j
      have hgj := fun h => HG.out j h
      have hbk := HB.out
      have hnn := fromI_nonneg zs s.size j (fun i hi => HG.out i (by omega))
      unfold goodI at hgj hbk
      have hki : (j : Int) < (n : Int) := by omega
      have hk0 : (0 : Int) ≤ (j : Int) := by omega
      by_cases hjk : j < k
      · have hgj := hgj hjk
        obtain ⟨c, hcz⟩ : ∃ c : Nat, zs[j]?.getD 0 = (c : Int) := ⟨(zs[j]?.getD 0).toNat, by omega⟩
        obtain ⟨q, hqz⟩ : ∃ q : Nat, fromI zs j = (q : Int) := ⟨(fromI zs j).toNat, by omega⟩
        rw [hcz] at hck hgj hfs hckw
        rw [hqz] at hgj ⊢
        have HFS := Lib.hid hfs
        have HCK := Lib.hid hckw
        have hxs : (s.extract q c).size ≤ 140737488351232 := by rw [ByteArray.size_extract]; omega
        obtain ⟨x, hx⟩ : ∃ x, recOf (bs (s.extract q c)) = x := ⟨_, rfl⟩
        have hii := recOf_is (bs (s.extract q c))
        rw [hx] at hii
        have HO := Lib.hid (rof_is (s := s.extract q c) hxs hii)
        have hq0 : (0 : Int) ≤ (q : Int) := by omega
        have hqc : (q : Int) ≤ (c : Int) := hgj.1
        have hcs : (c : Int) ≤ (s.size : Int) := hgj.2
        clear hcz hqz hfs hc hbk hx hii hxs hnn hckw
        go_wp2_with fail
        (with_reducible refine (HO.out _).mono ?_)
        rintro r w3 ⟨rfl, hb3⟩
        have hown := Lib.hid (owns_below hown.out hb3 (Nat.le_refl _))
        have hb := nx hb hb3
        have hsz := hb.size
        clear hb3
        go_wp2_with (at_builtin; refine wpList_append_own _ rfl _ _ 38 rfl w.heap.size 23 i0 (.agg #[.int .i64 0, .int .i64 0, .int .i64 0, .string ⟨#[]⟩, .string ⟨#[]⟩]) 5 56 Tryd.underlying38 hi hz0 hz1 hz2 rfl (by decide) u6 _ _ rfl (hown.out.alloc _) ⟨w3.heap.size, 0, none⟩ 1 1 (recCells x) rfl (by simp [recCells]) (cells_new _ _ _) (recCells_one _) (by unfold maxLen; omega) (by omega) (by simp; omega) ?_; intro v' w9 hown' hgrow _; have hbg := (al hb (.cells #[.int .i64 x.b, .int .i64 x.c, .int .i64 x.l, .string x.h, .string x.t] 23)).grown hgrow (by simp; omega) (fun q e => (hown.out.lt q e).1); have hck9 := (hbg.cell (p := ⟨g, o + j, none⟩) hltg).trans HCK.out; clear hgrow)
        exact ⟨⟨j + 1, xs ++ [x], by omega, by go_num, by rw [HFS.out], by rw [rowC_snoc]; exact hown', hbg⟩, by simp [intOf]; omega⟩
      · obtain rfl : j = k := by omega
        obtain ⟨z, hz⟩ : ∃ z, zs[j]?.getD 0 = z := ⟨_, rfl⟩
        obtain ⟨q, hq⟩ : ∃ q, fromI zs j = q := ⟨_, rfl⟩
        rw [hz] at hck hbk
        rw [hq] at hbk ⊢
        clear hz hq hfs hc hgj hckw
        by_cases hlt : z < q
        · go_wp2_with fail
          go_ret2
          exact ⟨rfl, hb⟩
        · have hgt : (s.size : Int) < z := by omega
          go_wp2_with fail
          go_ret2
          exact ⟨rfl, hb⟩
end Go.Proofs.YtpihmbdfhhjleaaDoor
