/-
  The document's lines: the contract of its All, as a row of its own.
-/
import Derived.Test.YtebmjmohhpkonaaDoorLRefEnd
import Derived.Test.YtebmjmohhpkonaaDoorIter
namespace Go.Proofs.YtebmjmohhpkonaaDoor
open Go.RowKit

theorem info_line : (Tryd.prog.info? 45).map (fun i => (i.zero, i.size, i.bytes)) = some (some (.agg #[.int .i64 0, .int .i64 0, .int .i64 0]), 3, 24) := by kernel_rfl

def lnCells (x : Nat × Nat × Nat) : List Value := [.int .i64 (x.1 : Nat), .int .i64 (x.2.1 : Nat), .int .i64 (x.2.2 : Nat)]
theorem lnCells_one (x : Nat × Nat × Nat) : ∀ u ∈ lnCells x, u.oneCell' = true := by
  intro u hu
  simp [lnCells] at hu
  rcases hu with rfl | rfl | rfl <;> rfl
theorem flatRow_at {α : Type} (f : α → List Value) (n : Nat) (hf : ∀ x, (f x).length = n) (L : List α) : ∀ (i j : Nat) (hi : i < L.length) (_ : j < n), (L.flatMap f)[i * n + j]? = (f L[i])[j]? := by
  induction L with
  | nil => intro i j hi; simp at hi
  | cons x L ih =>
    intro i j hi hj
    rw [List.flatMap_cons]
    cases i with
    | zero =>
      rw [List.getElem?_append_left (by rw [hf]; omega)]
      simp
    | succ i =>
      rw [List.getElem?_append_right (by rw [hf, Nat.succ_mul]; omega), hf]
      rw [show (i + 1) * n + j - n = i * n + j by rw [Nat.succ_mul]; omega]
      rw [ih i j (by simpa using hi) hj]
      rfl

set_option maxHeartbeats 4000000 in
theorem refall_any (s : ByteArray) (hs : s.size ≤ 1048576) (w : World) :
    Calls Tryd.prog 19 #[.string s] w fun e w' => ∃ v, e = .returned v ∧ w'.ownsRow w.heap.size 45 3 v (lnN (bs s)) ((linesL (bs s)).flatMap lnCells) ∧ Below w.heap.size w w' := by
  obtain ⟨i0, hi, hz0, hz1, hz2⟩ := info_parts info_line
  have HE := Lib.hid (fun c w => refend_any s (by omega) c w)
  have hNl := lnN_le (bs s)
  rw [← size_bs] at hNl
  obtain ⟨l, hl⟩ : ∃ l, bs s = l := ⟨_, rfl⟩
  have hlen : l.length = s.size := by rw [← hl, size_bs]
  rw [hl] at HE hNl ⊢
  have HLEN := Lib.hid hlen
  clear hl hlen
  go_enter Tryd.func19, Tryd.ntmps19
  go_wp2_with fail
  go_loopw [3, 4, 5] (fun v f i wr => ∃ (pre : List (Nat × Nat × Nat)) (f' i' : Nat), pre ++ lnRest l f' i' = linesL l ∧ f = .int .i64 (f' : Nat) ∧ i = .int .i64 (i' : Nat) ∧ i' ≤ s.size ∧ wr.ownsRow w.heap.size 45 3 v pre.length (pre.flatMap lnCells) ∧ Below w.heap.size w wr) (fun _ _ i _ => s.size - (intOf i).toNat)
  case atStart => exact ⟨[], 0, 0, rfl, rfl, rfl, Nat.zero_le _, World.ownsRow_nil _ _ _ _, Below.refl _ _⟩
  case round =>
    obtain ⟨pre, f', i', hpre, rfl, rfl, hi', hown, hb⟩ := hrel
    have hsz := hb.size
    by_cases hlt : i' < s.size
    · have hil : i' < l.length := by rw [HLEN.out]; exact hlt
      have hki : (i' : Int) < (s.size : Int) := by omega
      have HEE := Lib.hid (fun w => HE.out (i' : Nat) w)
      rw [endZ_nat, endRZ_nat hil] at HEE
      by_cases he : endN l i' = 0
      · rw [he, show nzB 0 = false from rfl] at HEE
        obtain ⟨k, hk⟩ : ∃ k, endR l i' = k := ⟨_, rfl⟩
        rw [hk] at HEE
        have HP := Lib.hid (show pre ++ lnRest l f' (i' + 1) = linesL l by rw [← ln_no hil he]; exact hpre)
        have HOWN := Lib.hid hown
        clear hil he hpre hk hown
        go_wp2_with (first | (go_at_call 12; (with_reducible refine (HEE.out _).mono ?_); rintro e w1 ⟨rfl, hb1⟩))
        exact ⟨⟨pre, f', i' + 1, HP.out, rfl, by go_num, hlt, owns_below HOWN.out hb1 (Nat.le_refl _), nx hb hb1⟩, by simp [intOf]; omega⟩
      · have hfit := end_fits he
        rw [HLEN.out] at hfit
        have hE := endR_yes he
        rw [hE] at HEE
        have hyes := ln_yes (f := f') he
        obtain ⟨x, hx⟩ : ∃ x, endN l i' = x := ⟨_, rfl⟩
        rw [hx] at HEE hfit hyes
        have hx1 : 1 ≤ x := by omega
        rw [show nzB x = true from bne_iff_ne.2 (by omega)] at HEE
        have HP := Lib.hid (show (pre ++ [(f', i', x)]) ++ lnRest l (i' + x) (i' + x) = linesL l by rw [List.append_assoc, ← hpre, hyes]; rfl)
        have hpl : pre.length < lnN l := by unfold lnN; rw [← hpre, hyes]; simp
        have hpl2 : pre.length ≤ 1048577 := by omega
        have HOWN := Lib.hid hown
        clear hil he hpre hE hyes hx hown hpl
        go_wp2_with (first
          | (go_at_call 12; (with_reducible refine (HEE.out _).mono ?_); rintro e w1 ⟨rfl, hb1⟩; have hown1 := owns_below HOWN.out hb1 (Nat.le_refl _); have hbb := nx hb hb1; have hszb := hbb.size)
          | (at_builtin; refine wpList_append_own _ rfl _ _ 35 rfl w.heap.size 45 i0 (.agg #[.int .i64 0, .int .i64 0, .int .i64 0]) 3 24 Tryd.underlying35 hi hz0 hz1 hz2 rfl (by decide) u3 _ _ rfl (hown1.alloc _) ⟨w1.heap.size, 0, none⟩ 1 1 (lnCells (f', i', x)) rfl (by simp [lnCells]) (cells_new _ _ _) (lnCells_one _) (by unfold maxLen; omega) (by omega) (by simp; omega) ?_; intro v' w2 hown' hgrow _))
        have hb3 : Below w.heap.size w w2 := (al hbb _).grown hgrow (by simp; omega) (fun q e => (hown1.lt q e).1)
        exact ⟨⟨pre ++ [(f', i', x)], i' + x, i' + x, HP.out, by go_num, by go_num, hfit, by rw [List.length_append, List.length_singleton, List.flatMap_append]; simpa using hown', hb3⟩, by simp [intOf]; omega⟩
    · obtain rfl : i' = s.size := by omega
      rw [ln_end (by rw [HLEN.out]; exact Nat.le_refl _), HLEN.out] at hpre
      have hpl : pre.length + 1 = lnN l := by unfold lnN; rw [← hpre]; simp
      have HP := Lib.hid hpre
      have HPL := Lib.hid hpl
      have hpl2 : pre.length ≤ 1048577 := by omega
      clear hpre hpl
      go_wp2_with (first
          | (at_builtin; refine wpList_append_own _ rfl _ _ 35 rfl w.heap.size 45 i0 (.agg #[.int .i64 0, .int .i64 0, .int .i64 0]) 3 24 Tryd.underlying35 hi hz0 hz1 hz2 rfl (by decide) u3 _ _ rfl (hown.alloc _) ⟨wr.heap.size, 0, none⟩ 1 1 (lnCells (f', s.size, 0)) rfl (by simp [lnCells]) (cells_new _ _ _) (lnCells_one _) (by unfold maxLen; omega) (by omega) (by simp; omega) ?_; intro v' w2 hown' hgrow _))
      have hb3 : Below w.heap.size w w2 := (al hb _).grown hgrow (by simp; omega) (fun q e => (hown.lt q e).1)
      go_ret
      refine ⟨_, rfl, ?_, hb3⟩
      rw [← HPL.out, ← HP.out, List.flatMap_append]
      simpa using hown'

/-- a row of lines that lies somewhere -/
def LinesAt (w : World) (ao : Option Addr) (l : Bs) : Prop :=
  ∀ k, k < lnN l → ∃ g, ao = some ⟨g, 0, none⟩ ∧ w.cell? ⟨g, k * 3, none⟩ = some (.int .i64 (lnA l k : Nat)) ∧ w.cell? ⟨g, k * 3 + 1, none⟩ = some (.int .i64 (lnB l k : Nat)) ∧ w.cell? ⟨g, k * 3 + 2, none⟩ = some (.int .i64 (lnE l k : Nat))
theorem LinesAt.below {w w' : World} {ao : Option Addr} {l : Bs} (h : LinesAt w ao l) {B : Nat} (hb : Below B w w') (hB : w.heap.size ≤ B) : LinesAt w' ao l := by
  intro i hi
  obtain ⟨g, e, h0, h1, h2⟩ := h i hi
  have hlt := World.block_lt_of_cell? w _ h0
  simp only at hlt
  exact ⟨g, e, (hb.cell (p := ⟨g, _, none⟩) (by show g < B; omega)).trans h0, (hb.cell (p := ⟨g, _, none⟩) (by show g < B; omega)).trans h1, (hb.cell (p := ⟨g, _, none⟩) (by show g < B; omega)).trans h2⟩
theorem LinesAt.owned {w : World} {base : Nat} {e : TypeId} {v : Value} {l : Bs} (h : w.ownsRow base e 3 v (lnN l) ((linesL l).flatMap lnCells)) : ∃ ao cap, v = .slice ao (lnN l) cap ∧ LinesAt w ao l := by
  rcases h.2 with ⟨rfl, h0⟩ | ⟨g, cap, cur, rfl, hg, hh, hn, hc, hs, ht⟩
  · have := lnN_pos l; omega
  · refine ⟨_, cap, rfl, fun i hi => ⟨g, rfl, ?_⟩⟩
    have hi' : i < (linesL l).length := hi
    have key : ∀ j, j < 3 → w.cell? ⟨g, i * 3 + j, none⟩ = (lnCells (lnA l i, lnB l i, lnE l i))[j]? := by
      intro j hj
      rw [h.cellAt (i * 3 + j) (by unfold lnN at *; omega), flatRow_at lnCells 3 (fun _ => rfl) _ _ _ hi' hj]
      have := ln_eta l i hi
      rw [List.getElem?_eq_getElem hi'] at this
      injection this with this
      rw [this]
    exact ⟨key 0 (by omega), key 1 (by omega), key 2 (by omega)⟩
theorem refall_at (s : ByteArray) (hs : s.size ≤ 1048576) (w : World) :
    Calls Tryd.prog 19 #[.string s] w fun e w' => ∃ ao cap, e = .returned (.slice ao (lnN (bs s)) cap) ∧ LinesAt w' ao (bs s) ∧ Below w.heap.size w w' := by
  refine (refall_any s hs w).mono ?_
  rintro e w' ⟨v, rfl, ho, hb⟩
  obtain ⟨ao, cap, rfl, hc⟩ := LinesAt.owned ho
  exact ⟨ao, cap, rfl, hc, hb⟩
end Go.Proofs.YtebmjmohhpkonaaDoor
