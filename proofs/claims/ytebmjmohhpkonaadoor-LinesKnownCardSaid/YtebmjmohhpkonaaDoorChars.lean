/-
  The contract of the document's Chars: the characters of a text, as a row of its own.
-/
import Derived.Test.YtebmjmohhpkonaaDoorRefFirst2
namespace Go.Proofs.YtebmjmohhpkonaaDoor
open Go.RowKit

/-- The cells of one character, and of a text's. -/
def charCells (p : Nat) (c : Nat × Nat) : List Value := [.int .i64 p, .int .i32 c.1, .int .i64 c.2, .bool (rightR c.1 c.2)]
def rowCells : List (Nat × Nat) → Nat → List Value
  | [], _ => []
  | c :: t, p => charCells p c ++ rowCells t (p + c.2)
theorem rowCells_snoc (t : List (Nat × Nat)) (c : Nat × Nat) (p : Nat) : rowCells (t ++ [c]) p = rowCells t p ++ charCells (p + wsum t) c := by
  induction t generalizing p with
  | nil => simp [rowCells, wsum]
  | cons d t ih => simp [rowCells, ih, wsum_cons, Nat.add_assoc]
theorem rowCells_at (t : List (Nat × Nat)) (p i j : Nat) (hi : i < t.length) (hj : j < 4) : (rowCells t p)[i * 4 + j]? = (charCells (p + wsum (t.take i)) (t[i]?.getD (0, 0)))[j]? := by
  induction t generalizing p i with
  | nil => simp at hi
  | cons d t ih =>
    cases i with
    | zero =>
      rw [rowCells, List.getElem?_append_left (by simp [charCells]; omega)]
      simp [wsum]
    | succ i =>
      rw [rowCells, List.getElem?_append_right (by simp [charCells]; omega)]
      have e : (i + 1) * 4 + j - (charCells p d).length = i * 4 + j := by simp [charCells]; omega
      rw [e, ih _ _ (by simpa using hi)]
      simp [wsum_cons, Nat.add_assoc]

theorem charCells_one (p : Nat) (c : Nat × Nat) : ∀ u ∈ charCells p c, u.oneCell' = true := by
  intro u hu
  simp [charCells] at hu
  rcases hu with rfl | rfl | rfl | rfl <;> rfl

/-! ### what the row is read for -/
/-- a row of characters that lies somewhere -/
def CharsAt (w : World) (ao : Option Addr) (l : Bs) : Prop :=
  ∀ i, i < countN l → ∃ g, ao = some ⟨g, 0, none⟩ ∧ w.cell? ⟨g, i * 4, none⟩ = some (.int .i64 (atN l i)) ∧ w.cell? ⟨g, i * 4 + 1, none⟩ = some (.int .i32 ((tk l)[i]?.getD (0, 0)).1) ∧
    w.cell? ⟨g, i * 4 + 2, none⟩ = some (.int .i64 ((tk l)[i]?.getD (0, 0)).2) ∧ w.cell? ⟨g, i * 4 + 3, none⟩ = some (.bool (rightR ((tk l)[i]?.getD (0, 0)).1 ((tk l)[i]?.getD (0, 0)).2))

theorem CharsAt.below {w w' : World} {ao : Option Addr} {l : Bs} (h : CharsAt w ao l) {B : Nat} (hb : Below B w w') (hB : w.heap.size ≤ B) : CharsAt w' ao l := by
  intro i hi
  obtain ⟨g, e, h0, h1, h2, h3⟩ := h i hi
  have hlt := World.block_lt_of_cell? w _ h0
  simp only at hlt
  exact ⟨g, e, (hb.cell (p := ⟨g, _, none⟩) (by show g < B; omega)).trans h0, (hb.cell (p := ⟨g, _, none⟩) (by show g < B; omega)).trans h1, (hb.cell (p := ⟨g, _, none⟩) (by show g < B; omega)).trans h2, (hb.cell (p := ⟨g, _, none⟩) (by show g < B; omega)).trans h3⟩

theorem CharsAt.owned {w : World} {base : Nat} {e : TypeId} {v : Value} {l : Bs} (h : w.ownsRow base e 4 v (countN l) (rowCells (tk l) 0)) : ∃ ao cap, v = .slice ao (countN l) cap ∧ CharsAt w ao l := by
  rcases h.2 with ⟨rfl, h0⟩ | ⟨g, cap, cur, rfl, hg, hh, hn, hc, hs, ht⟩
  · exact ⟨none, 0, by rw [h0], fun i hi => by omega⟩
  · refine ⟨_, cap, rfl, fun i hi => ⟨g, rfl, ?_⟩⟩
    have hi' : i < (tk l).length := hi
    have key : ∀ j, j < 4 → w.cell? ⟨g, i * 4 + j, none⟩ = (charCells (atN l i) ((tk l)[i]?.getD (0, 0)))[j]? := by
      intro j hj
      rw [h.cellAt (i * 4 + j) (by omega), rowCells_at _ _ _ _ hi' hj, Nat.zero_add]
      rfl
    exact ⟨key 0 (by omega), key 1 (by omega), key 2 (by omega), key 3 (by omega)⟩

theorem bs_len_le (s : ByteArray) : countN (bs s) ≤ s.size := by rw [size_bs]; exact countN_le _

theorem countN_pos {l : Bs} (h : l ≠ []) : 1 ≤ countN l := by unfold countN; rw [tk_cons l h]; simp
theorem lastC_get {l : Bs} (h : l ≠ []) : (tk l)[countN l - 1]?.getD (0, 0) = lastC l := by
  have hp := countN_pos h
  unfold lastC
  rw [List.getLast?_eq_getElem?]
  unfold countN at *
  rw [List.getElem?_eq_getElem (by omega)]
  rfl

theorem info_i32 : (Tryd.prog.info? 21).map (fun i => (i.zero, i.size, i.bytes)) = some (some (.int .i32 0), 1, 4) := by kernel_rfl
/-- The runes of a text. -/
def runesZ (l : Bs) : List Int := (tk l).map fun c => (c.1 : Int)
theorem runesZ_len (l : Bs) : (runesZ l).length = countN l := by simp [runesZ, countN]
theorem runesZ_snoc (l : Bs) (k : Nat) (h : k < countN l) : (runesZ l).take (k + 1) = (runesZ l).take k ++ [((((tk l)[k]?.getD (0, 0)).1 : Nat) : Int)] := by
  have h' : k < (tk l).length := h
  rw [List.take_succ_eq_append_getElem (by rw [runesZ_len]; exact h)]
  simp only [runesZ, List.getElem_map, List.getElem?_eq_getElem h', Option.getD_some]

/-- the greatest character that begins at or ahead of a place has it -/
theorem ofT_max {l : Bs} {q m : Nat} (hq : q < l.length) (hm : m < countN l) (h1 : atN l m ≤ q) (h2 : ∀ j, j < countN l → atN l j ≤ q → j ≤ m) : ofT (tk l) q = m := by
  have hc := cut_at l m (by omega)
  have hlen : ((tk l).take m).length = m := by unfold countN at hm; simp; omega
  have hp : atN l m < l.length := by omega
  have hst := hc.step hp
  have hat := hst.at'
  rw [List.length_append, hlen, List.length_singleton] at hat
  have := ofT_cut hc hp h1 (by
    rcases Nat.lt_or_ge q (atN l m + (Lib.decodeL (l.drop (atN l m))).2) with h | h
    · exact h
    · exfalso
      rw [← hat] at h
      by_cases e : m + 1 < countN l
      · have := h2 (m + 1) e h; omega
      · have : m + 1 = countN l := by omega
        rw [this, atN_full] at h
        omega)
  rw [this, hlen]

end Go.Proofs.YtebmjmohhpkonaaDoor
