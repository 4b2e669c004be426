/-
  The contracts of the document's closed, beginning and Pending.
-/
import Derived.Test.YtnfjohlbpbonhaaDoorRefFirst2
namespace Go.Proofs.YtnfjohlbpbonhaaDoor
open Go.RowKit

/-- is a text one right sequence? -/
def seqB (l : Bs) : Bool := !l.isEmpty && (rightR (Lib.decodeL l).1 (Lib.decodeL l).2 && decide ((Lib.decodeL l).2 = l.length))
def nexts : List Nat := [128, 143, 144, 159, 160, 191]
def closedB (l : Bs) : Nat → Bool
  | 0 => seqB l
  | m + 1 => seqB l || nexts.any fun b => closedB (l ++ [UInt8.ofNat b]) m

theorem conv_new {P : Program} (src e dst : TypeId) (hs : P.underlying src = some (.slice e)) (he : P.underlying e = some (.int .u8)) (hd : P.underlying dst = some .string) (x : Int) (W : World) :
    (convert src dst (.slice (some ⟨W.heap.size, 0, none⟩) 1 1)).run P (W.alloc (.cells #[.int .u8 x] e)) = .ok (.string (strOfNums [x])) (W.alloc (.cells #[.int .u8 x] e)) := by
  refine run_convert_bytes_arg _ src e hs he _ 0 1 1 [x] rfl (fun i hi => ?_) dst hd
  obtain rfl : i = 0 := by omega
  simp

theorem bs_snoc (s : ByteArray) (b : Nat) (_h : b < 256) : bs (s ++ strOfNums [(b : Int)]) = bs s ++ [UInt8.ofNat b] := by
  unfold bs
  rw [ByteArray.data_append, Array.toList_append, strOfNums_data]
  simp

theorem any_cons_false {α : Type} {p : α → Bool} {l : List α} : l.any p = false ↔ ∀ x ∈ l, p x = false := by
  simp

def nextsObj : Obj := .cells #[.int .u8 128, .int .u8 143, .int .u8 144, .int .u8 159, .int .u8 160, .int .u8 191] 5
theorem nexts_cell (w : World) (j : Nat) (h : j < 6) : (w.alloc nextsObj).cell? ⟨w.heap.size, j, none⟩ = some (.int .u8 ((nexts[j]?.getD 0 : Nat) : Int)) := by
  unfold nextsObj
  match j, h with
  | 0, _ => simp [nexts]
  | 1, _ => simp [nexts]
  | 2, _ => simp [nexts]
  | 3, _ => simp [nexts]
  | 4, _ => simp [nexts]
  | 5, _ => simp [nexts]
theorem nexts_lt (j : Nat) (h : j < 6) : nexts[j]?.getD 0 < 256 ∧ nexts[j]?.getD 0 ∈ nexts := by
  match j, h with
  | 0, _ => simp [nexts]
  | 1, _ => simp [nexts]
  | 2, _ => simp [nexts]
  | 3, _ => simp [nexts]
  | 4, _ => simp [nexts]
  | 5, _ => simp [nexts]
theorem nexts_any {p : Nat → Bool} (h : ∀ j, j < 6 → p (nexts[j]?.getD 0) = false) : nexts.any p = false := by
  rw [any_cons_false]
  intro x hx
  obtain ⟨j, hj, rfl⟩ := List.mem_iff_getElem.1 hx
  have := h j hj
  rwa [List.getElem?_eq_getElem hj] at this

set_option maxHeartbeats 2000000 in
theorem closed_any (m : Nat) : ∀ (s : ByteArray) (w : World), m ≤ 3 → s.size ≤ 10 - m → s.size ≠ 0 →
    Calls Tryd.prog 61 #[.string s, .int .i64 m] w fun e w' => e = .returned (.bool (closedB (bs s) m)) ∧ Below w.heap.size w w' := by
  induction m with
  | zero =>
    intro s w hm hs h0
    have hF := fun w => reffirst_some s (by omega) (Lib.decodeL (bs s)).1 (Lib.decodeL (bs s)).2 h0 rfl rfl w
    have hB : closedB (bs s) 0 = (rightR (Lib.decodeL (bs s)).1 (Lib.decodeL (bs s)).2 && decide ((Lib.decodeL (bs s)).2 = s.size)) := by
      have : (bs s).isEmpty = false := by simpa using bs_ne h0
      unfold closedB seqB
      rw [this, size_bs]; rfl
    obtain ⟨d, hd⟩ : ∃ d, d = Lib.decodeL (bs s) := ⟨_, rfl⟩
    rw [← hd] at hF hB
    obtain ⟨r, n⟩ := d
    simp only at hF hB
    have HF := Lib.hid hF
    clear hF hd
    by_cases hr : rightR r n = true
    · by_cases hn : n = s.size
      · have hq : ((n : Int) == (s.size : Int)) = true := by simp [hn]
        have HB := Lib.hid (show closedB (bs s) 0 = true by rw [hB, hr, hn]; simp)
        clear hB hn
        go_enter Tryd.func61, Tryd.ntmps61
        go_wp2_with (go_at_call 16; (with_reducible refine (HF.out _).mono ?_); rintro e w1 ⟨rfl, hb1⟩)
        go_ret
        rw [HB.out]
        exact ⟨rfl, hb1⟩
      · have hq : ((n : Int) == (s.size : Int)) = false := beq_eq_false_iff_ne.2 (by omega)
        have HB := Lib.hid (show closedB (bs s) 0 = false by rw [hB, hr]; simp [hn])
        clear hB hn
        go_enter Tryd.func61, Tryd.ntmps61
        go_wp2_with (go_at_call 16; (with_reducible refine (HF.out _).mono ?_); rintro e w1 ⟨rfl, hb1⟩)
        go_ret
        rw [HB.out]
        exact ⟨rfl, hb1⟩
    · have hr2 : rightR r n = false := Bool.eq_false_iff.2 hr
      have HB := Lib.hid (show closedB (bs s) 0 = false by rw [hB, hr2]; rfl)
      clear hB hr
      go_enter Tryd.func61, Tryd.ntmps61
      go_wp2_with (go_at_call 16; (with_reducible refine (HF.out _).mono ?_); rintro e w1 ⟨rfl, hb1⟩)
      go_ret
      rw [HB.out]
      exact ⟨rfl, hb1⟩
  | succ m ih =>
    intro s w hm hs h0
    have hF := fun w => reffirst_some s (by omega) (Lib.decodeL (bs s)).1 (Lib.decodeL (bs s)).2 h0 rfl rfl w
    have hB : closedB (bs s) (m + 1) = ((rightR (Lib.decodeL (bs s)).1 (Lib.decodeL (bs s)).2 && decide ((Lib.decodeL (bs s)).2 = s.size)) || nexts.any fun b => closedB (bs s ++ [UInt8.ofNat b]) m) := by
      have : (bs s).isEmpty = false := by simpa using bs_ne h0
      conv => lhs; unfold closedB
      unfold seqB
      rw [this, size_bs]; rfl
    obtain ⟨d, hd⟩ : ∃ d, d = Lib.decodeL (bs s) := ⟨_, rfl⟩
    rw [← hd] at hF hB
    obtain ⟨r, n⟩ := d
    simp only at hF hB
    have HF := Lib.hid hF
    clear hF hd
    have hm0 : ((m : Int) + 1 == 0) = false := beq_eq_false_iff_ne.2 (by omega)
    have hI : ∀ (b : Nat) (w : World), b < 256 → Calls Tryd.prog 61 #[.string (s ++ strOfNums [(b : Int)]), .int .i64 m] w fun e w' => e = .returned (.bool (closedB (bs s ++ [UInt8.ofNat b]) m)) ∧ Below w.heap.size w w' := by
      intro b w hb
      have hz : (s ++ strOfNums [(b : Int)]).size = s.size + 1 := by rw [size_bs, bs_snoc s b hb, size_bs]; simp
      have := ih (s ++ strOfNums [(b : Int)]) w (by omega) (by omega) (by omega)
      rwa [bs_snoc s b hb] at this
    have HI := Lib.hid hI
    clear hI ih
    by_cases hr : (rightR r n && decide (n = s.size)) = true
    · have hr1 : rightR r n = true := by cases h : rightR r n <;> simp_all
      have hn : n = s.size := by rw [hr1] at hr; simpa using hr
      have hq : ((n : Int) == (s.size : Int)) = true := by simp [hn]
      have HB := Lib.hid (show closedB (bs s) (m + 1) = true by rw [hB, hr]; rfl)
      clear hB hn hr
      go_enter Tryd.func61, Tryd.ntmps61
      go_wp2_with (go_at_call 16; (with_reducible refine (HF.out _).mono ?_); rintro e w1 ⟨rfl, hb1⟩)
      go_ret
      rw [HB.out]
      exact ⟨rfl, hb1⟩
    · have hrf : (rightR r n && decide (n = s.size)) = false := Bool.eq_false_iff.2 hr
      rw [hrf, Bool.false_or] at hB
      have HB := Lib.hid hB
      have hg : (rightR r n = true ∧ ((n : Int) == (s.size : Int)) = false) ∨ rightR r n = false := by
        cases h : rightR r n
        · exact .inr rfl
        · rw [h, Bool.true_and] at hrf
          have := of_decide_eq_false hrf
          exact .inl ⟨rfl, beq_eq_false_iff_ne.2 (by omega)⟩
      clear hB hr hrf
      rcases hg with ⟨hr1, hq⟩ | hr1
      all_goals
        go_enter Tryd.func61, Tryd.ntmps61
        go_wp2_with (go_at_call 16; (with_reducible refine (HF.out _).mono ?_); rintro e w1 ⟨rfl, hb1⟩)
        go_loopw [9] (fun i wr => ∃ k : Nat, k ≤ 6 ∧ i = .int .i64 k ∧ Hid (∀ j, j < k → closedB (bs s ++ [UInt8.ofNat (nexts[j]?.getD 0)]) m = false) ∧ Below (w1.heap.size + 1) (w1.alloc nextsObj) wr) (fun i _ => 6 - (intOf i).toNat)
        case atStart => exact ⟨0, by omega, rfl, (show Hid _ from fun j h => absurd h (by omega)), (show Below _ (w1.alloc nextsObj) (w1.alloc nextsObj) from Below.refl _ _)⟩
        case round =>
          obtain ⟨k, hk, rfl, hall, hb2⟩ := hrel
          by_cases hlt : k < 6
          · have hcx := (hb2.cell (p := ⟨w1.heap.size, k, none⟩) (by show w1.heap.size < w1.heap.size + 1; omega)).trans (nexts_cell w1 k hlt)
            have hxl := nexts_lt k hlt
            have hsz := hb2.size
            rw [World.size_alloc] at hsz
            obtain ⟨x, hx⟩ : ∃ x, x = nexts[k]?.getD 0 := ⟨_, rfl⟩
            rw [← hx] at hcx hxl
            have HX := Lib.hid hx
            have HM := Lib.hid hxl.2
            have hx256 := hxl.1
            have hcv := conv_new (P := Tryd.prog) 57 5 9 Tryd.underlying57 Tryd.underlying5 Tryd.underlying9 (x : Int) wr
            have hst : (strOfNums [(x : Int)]).size = 1 := strOfNums_size _
            clear hx hxl
            have HI2 := Lib.hid (HI.out x)
            cases hcl : closedB (bs s ++ [UInt8.ofNat x]) m
            · go_wp2_with (go_at_call 61; (with_reducible refine (HI2.out _ hx256).mono ?_); rintro e w3 ⟨rfl, hb3⟩)
              go_roundw
              case rel =>
                refine ⟨k + 1, by omega, by go_num, (show Hid _ from fun j h => ?_), ?_⟩
                · by_cases e : j = k
                  · subst e; rw [← HX.out]; exact hcl
                  · exact hall.out j (by omega)
                · exact (hb2.alloc hsz _).trans (hb3.mono (by rw [World.size_alloc]; omega))
              case measure => simp [intOf]; omega
            · have HV := Lib.hid (show closedB (bs s) (m + 1) = true by rw [HB.out, List.any_eq_true]; exact ⟨x, HM.out, hcl⟩)
              go_wp2_with (go_at_call 61; (with_reducible refine (HI2.out _ hx256).mono ?_); rintro e w3 ⟨rfl, hb3⟩)
              go_ret
              rw [HV.out]
              have hb4 : Below w.heap.size w (w1.alloc nextsObj) := al hb1 _
              exact ⟨rfl, hb4.trans (((hb2.alloc hsz _).trans (hb3.mono (by rw [World.size_alloc]; omega))).mono (by have := hb1.size; omega))⟩
          · obtain rfl : k = 6 := by omega
            have HV := Lib.hid (show closedB (bs s) (m + 1) = false by rw [HB.out]; exact nexts_any hall.out)
            go_wp2
            go_ret
            rw [HV.out]
            have hb4 : Below w.heap.size w (w1.alloc nextsObj) := al hb1 _
            exact ⟨rfl, hb4.trans (hb2.mono (by have := hb1.size; omega))⟩
end Go.Proofs.YtnfjohlbpbonhaaDoor
