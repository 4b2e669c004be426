/-
  A row of tallies that the call has made: read and written, one tally at a time; and eq.
-/
import Derived.Test.YtpihmbdfhhjleaaDoorTalRSum
import Derived.Laws.MakeOwn
import Derived.BigQuiet
namespace Go.Proofs.YtpihmbdfhhjleaaDoor
open Go.RowKit

def set5o (W : World) (g o : Nat) (x : Rec) : World := ((((W.setCell ⟨g, o, none⟩ (.int .i64 x.b)).setCell ⟨g, o + 1, none⟩ (.int .i64 x.c)).setCell ⟨g, o + 2, none⟩ (.int .i64 x.l)).setCell ⟨g, o + 3, none⟩ (.string x.h)).setCell ⟨g, o + 4, none⟩ (.string x.t)
theorem set5o_size (W : World) (g o : Nat) (x : Rec) : (set5o W g o x).heap.size = W.heap.size := by unfold set5o; simp only [size_setCell]
theorem set5o_block (W : World) (g o : Nat) (x : Rec) (p : Addr) (h : p.block ≠ g) : (set5o W g o x).cell? p = W.cell? p := by
  unfold set5o
  rw [sc_other _ _ _ _ (blk_ne h), sc_other _ _ _ _ (blk_ne h), sc_other _ _ _ _ (blk_ne h), sc_other _ _ _ _ (blk_ne h), sc_other _ _ _ _ (blk_ne h)]
theorem set5o_off (W : World) (g o : Nat) (x : Rec) (i : Nat) (h : i < o ∨ o + 5 ≤ i) : (set5o W g o x).cell? ⟨g, i, none⟩ = W.cell? ⟨g, i, none⟩ := by
  unfold set5o
  rw [sc_other _ _ _ _ (off_ne (by omega)), sc_other _ _ _ _ (off_ne (by omega)), sc_other _ _ _ _ (off_ne (by omega)), sc_other _ _ _ _ (off_ne (by omega)), sc_other _ _ _ _ (off_ne (by omega))]
theorem set5o_frozen (W : World) (g o : Nat) (x : Rec) (p : Addr) : (set5o W g o x).frozen? p = W.frozen? p := by
  unfold set5o; simp
theorem set5o_below {B : Nat} {w W : World} (h : Below B w W) (g o : Nat) (x : Rec) (hg : B ≤ g) : Below B w (set5o W g o x) := by
  unfold set5o
  exact ((((h.setCell hg _).setCell hg _).setCell hg _).setCell hg _).setCell hg _
theorem set5o_at {W : World} {g o : Nat} {x : Rec} (H : RecAt W g o x) (y : Rec) : RecAt (set5o W g o y) g o y := by
  unfold set5o
  refine ⟨?_, ?_, ?_, ?_, ?_⟩
  · rw [sc_other _ _ _ _ (off_ne (by omega)), sc_other _ _ _ _ (off_ne (by omega)), sc_other _ _ _ _ (off_ne (by omega)), sc_other _ _ _ _ (off_ne (by omega))]
    exact sc_same _ _ _ _ H.1
  · rw [sc_other _ _ _ _ (off_ne (by omega)), sc_other _ _ _ _ (off_ne (by omega)), sc_other _ _ _ _ (off_ne (by omega))]
    exact sc_same _ _ _ _ (by rw [sc_other _ _ _ _ (off_ne (by omega))]; exact H.2.1)
  · rw [sc_other _ _ _ _ (off_ne (by omega)), sc_other _ _ _ _ (off_ne (by omega))]
    exact sc_same _ _ _ _ (by rw [sc_other _ _ _ _ (off_ne (by omega)), sc_other _ _ _ _ (off_ne (by omega))]; exact H.2.2.1)
  · rw [sc_other _ _ _ _ (off_ne (by omega))]
    exact sc_same _ _ _ _ (by rw [sc_other _ _ _ _ (off_ne (by omega)), sc_other _ _ _ _ (off_ne (by omega)), sc_other _ _ _ _ (off_ne (by omega))]; exact H.2.2.2.1)
  · exact sc_same _ _ _ _ (by rw [sc_other _ _ _ _ (off_ne (by omega)), sc_other _ _ _ _ (off_ne (by omega)), sc_other _ _ _ _ (off_ne (by omega)), sc_other _ _ _ _ (off_ne (by omega))]; exact H.2.2.2.2)

/-- a row of n tallies in a block of its own -/
def XRow (W : World) (g n : Nat) (f : Nat → Rec) : Prop := (∀ i, i < n → RecAt W g (i * 5) (f i)) ∧ (∀ j, W.frozen? ⟨g, j, none⟩ = false) ∧ g < W.heap.size
theorem XRow.keep {W W' : World} {g n : Nat} {f : Nat → Rec} (H : XRow W g n f) (hb : Below W.heap.size W W') : XRow W' g n f :=
  ⟨fun i hi => (H.1 i hi).keep hb, fun j => (hb.frozen (p := ⟨g, j, none⟩) H.2.2).trans (H.2.1 j), Nat.lt_of_lt_of_le H.2.2 hb.size⟩
theorem XRow.set {W : World} {g n : Nat} {f : Nat → Rec} (H : XRow W g n f) (i : Nat) (hi : i < n) (y : Rec) : XRow (set5o W g (i * 5) y) g n (fun k => if k = i then y else f k) := by
  refine ⟨fun k hk => ?_, fun j => (set5o_frozen W g _ y _).trans (H.2.1 j), by rw [set5o_size]; exact H.2.2⟩
  by_cases e : k = i
  · subst e
    simp only [if_true]
    exact set5o_at (H.1 k hk) y
  · simp only [if_neg e]
    obtain ⟨h0, h1, h2, h3, h4⟩ := H.1 k hk
    exact ⟨(set5o_off W g _ y _ (by omega)).trans h0, (set5o_off W g _ y _ (by omega)).trans h1, (set5o_off W g _ y _ (by omega)).trans h2, (set5o_off W g _ y _ (by omega)).trans h3, (set5o_off W g _ y _ (by omega)).trans h4⟩
theorem XRow.congr {W : World} {g n : Nat} {f f' : Nat → Rec} (H : XRow W g n f) (h : ∀ i, i < n → f i = f' i) : XRow W g n f' :=
  ⟨fun i hi => by rw [← h i hi]; exact H.1 i hi, H.2.1, H.2.2⟩
theorem XRow.other {W : World} {g n : Nat} {f : Nat → Rec} (H : XRow W g n f) (q o : Nat) (y : Rec) (h : g ≠ q) : XRow (set5o W q o y) g n f :=
  ⟨fun i hi => by
    obtain ⟨h0, h1, h2, h3, h4⟩ := H.1 i hi
    exact ⟨(set5o_block W q o y ⟨g, _, none⟩ h).trans h0, (set5o_block W q o y ⟨g, _, none⟩ h).trans h1, (set5o_block W q o y ⟨g, _, none⟩ h).trans h2, (set5o_block W q o y ⟨g, _, none⟩ h).trans h3, (set5o_block W q o y ⟨g, _, none⟩ h).trans h4⟩,
   fun j => (set5o_frozen W q o y _).trans (H.2.1 j), by rw [set5o_size]; exact H.2.2⟩
theorem XRow.row {W : World} {g n : Nat} {f : Nat → Rec} (H : XRow W g n f) (xs : List Rec) (hl : xs.length ≤ n) (h : ∀ i (hi : i < xs.length), f i = xs[i]'hi) : RowT W (some ⟨g, 0, none⟩) xs := by
  intro i hi
  refine ⟨g, 0, rfl, ?_⟩
  rw [Nat.zero_add, ← h i hi]
  exact H.1 i (by omega)

set_option maxHeartbeats 2000000 in
theorem eq_same (ao bo : Option Addr) (n ca cb : Nat) (xs : List Rec) (hl : xs.length = n) (hn : n ≤ 4398046511104) (w : World) (hA : RowT w ao xs) (hB : RowT w bo xs) :
    Calls Tryd.prog 22 #[.slice ao n ca, .slice bo n cb] w fun r w' => r = .returned (.bool true) ∧ Below w.heap.size w w' := by
  have HA := Lib.hid hA
  have HB := Lib.hid hB
  have HL := Lib.hid hl
  have hgd := guard_tal
  clear hA hB hl
  go_enter Tryd.func22, Tryd.ntmps22
  go_wp2_with fail
  go_loopw [5] (fun i wr => ∃ k, k ≤ n ∧ i = .int .i64 (k : Nat) ∧ Below w.heap.size w wr) (fun i _ => n - (intOf i).toNat)
  case atStart => exact ⟨0, Nat.zero_le _, rfl, Below.refl _ _⟩
  case round =>
    obtain ⟨k, hk, rfl, hb⟩ := hrel
    by_cases hlt : k < n
    · have hlx : k < xs.length := by rw [HL.out]; exact hlt
      obtain ⟨x, hx⟩ : ∃ x, xs[k]'hlx = x := ⟨_, rfl⟩
      obtain ⟨g, o, rfl, hre⟩ := (HA.out.keep hb) k hlx
      obtain ⟨g', o', rfl, hre'⟩ := (HB.out.keep hb) k hlx
      rw [hx] at hre hre'
      obtain ⟨e0, e1, e2, e3, e4⟩ := hre
      obtain ⟨f0, f1, f2, f3, f4⟩ := hre'
      have heq := fun w => eq_tal x.b x.c x.l x.h x.t x.b x.c x.l x.h x.t w
      rw [show eqT x.b x.c x.l x.h x.t x.b x.c x.l x.h x.t = true from decide_eq_true ⟨rfl, rfl, rfl, rfl, rfl⟩] at heq
      have hki : (k : Int) < (n : Int) := by omega
      have hk0 : (0 : Int) ≤ (k : Int) := by omega
      clear hx
      go_wp2_with fail
      go_quiet (fail)
      all_goals go_wp2_with fail
      exact ⟨⟨k + 1, by omega, by go_num, below_drewN hb _⟩, by simp [intOf]; omega⟩
    · go_wp2_with fail
      go_ret
      exact ⟨rfl, hb⟩

theorem info_tally : (Tryd.prog.info? 23).map (fun i => (i.zero, i.size, i.bytes)) = some (some (.agg #[.int .i64 0, .int .i64 0, .int .i64 0, .string ⟨#[]⟩, .string ⟨#[]⟩]), 5, 56) := by kernel_rfl

theorem made_at (n i j : Nat) (hi : i < n) (hj : j < 5) : (madeCells #[.int .i64 0, .int .i64 0, .int .i64 0, .string ⟨#[]⟩, .string ⟨#[]⟩] (n * 5))[i * 5 + j]? = #[Value.int .i64 0, .int .i64 0, .int .i64 0, .string ⟨#[]⟩, .string ⟨#[]⟩][j]? := by
  unfold madeCells
  have h1 : i * 5 + j < n * 5 := by omega
  rw [Array.getElem?_map, Array.getElem?_range, if_pos h1]
  simp only [Option.map_some]
  have h2 : (i * 5 + j) % 5 = j := by omega
  show some (#[Value.int .i64 0, .int .i64 0, .int .i64 0, .string ⟨#[]⟩, .string ⟨#[]⟩][(i * 5 + j) % 5]!) = _
  rw [h2]
  match j, hj with
  | 0, _ => rfl
  | 1, _ => rfl
  | 2, _ => rfl
  | 3, _ => rfl
  | 4, _ => rfl
theorem xrow_made (w : World) (n : Nat) : XRow (w.alloc (.cells (madeCells #[.int .i64 0, .int .i64 0, .int .i64 0, .string ⟨#[]⟩, .string ⟨#[]⟩] (n * 5)) 23)) w.heap.size n (fun _ => zeroR) := by
  refine ⟨fun i hi => ?_, fun j => World.frozen?_alloc_at _ _ _ _ rfl, by rw [World.size_alloc]; omega⟩
  have h : ∀ j, j < 5 → (w.alloc (.cells (madeCells #[.int .i64 0, .int .i64 0, .int .i64 0, .string ⟨#[]⟩, .string ⟨#[]⟩] (n * 5)) 23)).cell? ⟨w.heap.size, i * 5 + j, none⟩ = #[Value.int .i64 0, .int .i64 0, .int .i64 0, .string ⟨#[]⟩, .string ⟨#[]⟩][j]? := fun j hj => by
    rw [World.cell?_alloc_at _ _ _ _ rfl, made_at n i j hi hj]
  exact ⟨h 0 (by omega), h 1 (by omega), h 2 (by omega), h 3 (by omega), h 4 (by omega)⟩

theorem make_tally (n : Nat) (hn : n ≤ 4398046511104) (w : World) : (Instr.makeSlice 38 (.int .i64 (n : Int)) (.int .i64 (n : Int))).run Tryd.prog w =
    .ok (.slice (some ⟨w.heap.size, 0, none⟩) n n) (w.alloc (.cells (madeCells #[.int .i64 0, .int .i64 0, .int .i64 0, .string ⟨#[]⟩, .string ⟨#[]⟩] (n * 5)) 23)) := by
  obtain ⟨i0, hi, hz0, hz1, hz2⟩ := info_parts info_tally
  have := run_make (P := Tryd.prog) w 38 23 i0 (.agg #[.int .i64 0, .int .i64 0, .int .i64 0, .string ⟨#[]⟩, .string ⟨#[]⟩]) Tryd.underlying38 hi hz0 .i64 .i64 (n : Int) (n : Int) (by omega) (Int.le_refl _) (by rw [hz2]; omega) (by omega)
  simpa [hz1, Value.cells] using this

/-- a tally in a block of its own that nothing has frozen -/
def BoxF (W : World) (g : Nat) (x : Rec) : Prop := BoxAt W g x.b x.c x.l x.h x.t ∧ (∀ j, W.frozen? ⟨g, j, none⟩ = false) ∧ g < W.heap.size
theorem BoxF.keep {W W' : World} {g : Nat} {x : Rec} (H : BoxF W g x) (hb : Below W.heap.size W W') : BoxF W' g x :=
  ⟨H.1.keep hb, fun j => (hb.frozen (p := ⟨g, j, none⟩) H.2.2).trans (H.2.1 j), Nat.lt_of_lt_of_le H.2.2 hb.size⟩
theorem BoxF.new (w : World) (x : Rec) : BoxF (w.alloc (.cells #[.int .i64 x.b, .int .i64 x.c, .int .i64 x.l, .string x.h, .string x.t] 23)) w.heap.size x :=
  ⟨BoxAt.new w _ _ _ _ _, fun j => World.frozen?_alloc_at _ _ _ _ rfl, by rw [World.size_alloc]; omega⟩
theorem BoxF.other {W : World} {g : Nat} {x : Rec} (H : BoxF W g x) (q o : Nat) (y : Rec) (hq : g ≠ q) : BoxF (set5o W q o y) g x :=
  ⟨⟨(set5o_block W q o y ⟨g, _, none⟩ hq).trans H.1.1, (set5o_block W q o y ⟨g, _, none⟩ hq).trans H.1.2.1, (set5o_block W q o y ⟨g, _, none⟩ hq).trans H.1.2.2.1, (set5o_block W q o y ⟨g, _, none⟩ hq).trans H.1.2.2.2.1, (set5o_block W q o y ⟨g, _, none⟩ hq).trans H.1.2.2.2.2⟩,
   fun j => (set5o_frozen W q o y _).trans (H.2.1 j), by rw [set5o_size]; exact H.2.2⟩
theorem BoxF.set {W : World} {g : Nat} {x : Rec} (H : BoxF W g x) (y : Rec) : BoxF (set5 W g y) g y :=
  ⟨set5_at H.1 y, fun j => (set5_frozen W g y _).trans (H.2.1 j), by rw [set5_size]; exact H.2.2⟩

/-- A store below an owned row's base. -/
theorem owns_setCell {w : World} {base : Nat} {e : TypeId} {size : Nat} {v : Value} {n : Nat} {xs : List Value} (h : w.ownsRow base e size v n xs) (p : Addr) (u : Value) (hp : p.block < base) : (w.setCell p u).ownsRow base e size v n xs := by
  obtain ⟨h1, h2⟩ := h
  refine ⟨h1, ?_⟩
  rcases h2 with h2 | ⟨g, cap, cur, hv, hg, hh, r⟩
  · exact .inl h2
  · exact .inr ⟨g, cap, cur, hv, hg, (Below.heap_setCell w p u g (by omega)).trans hh, r⟩
theorem owns_set5o {w : World} {base : Nat} {e : TypeId} {size : Nat} {v : Value} {n : Nat} {xs : List Value} (h : w.ownsRow base e size v n xs) (g o : Nat) (y : Rec) (hg : g < base) : (set5o w g o y).ownsRow base e size v n xs := by
  unfold set5o
  exact owns_setCell (owns_setCell (owns_setCell (owns_setCell (owns_setCell h _ _ hg) _ _ hg) _ _ hg) _ _ hg) _ _ hg

/-- the cells of tallies, one behind the other -/
def recCells (x : Rec) : List Value := [.int .i64 x.b, .int .i64 x.c, .int .i64 x.l, .string x.h, .string x.t]
def rowC : List Rec → List Value
  | [] => []
  | x :: r => recCells x ++ rowC r
theorem rowC_snoc (r : List Rec) (x : Rec) : rowC (r ++ [x]) = rowC r ++ recCells x := by
  induction r with
  | nil => simp [rowC]
  | cons y r ih => simp [rowC, ih]
theorem rowC_len (r : List Rec) : (rowC r).length = r.length * 5 := by
  induction r with
  | nil => rfl
  | cons y r ih => simp [rowC, ih, recCells]; omega
theorem rowC_at (r : List Rec) (i j : Nat) (hi : i < r.length) (hj : j < 5) : (rowC r)[i * 5 + j]? = (recCells (r[i]'hi))[j]? := by
  induction r generalizing i with
  | nil => simp at hi
  | cons y r ih =>
    cases i with
    | zero =>
      rw [rowC, List.getElem?_append_left (by simp [recCells]; omega)]
      simp
    | succ i =>
      rw [rowC, List.getElem?_append_right (by simp [recCells]; omega)]
      have e : (i + 1) * 5 + j - (recCells y).length = i * 5 + j := by simp [recCells]; omega
      rw [e, ih i (by simpa using hi)]
      simp
theorem recCells_one (x : Rec) : ∀ u ∈ recCells x, u.oneCell' = true := by
  intro u hu
  simp [recCells] at hu
  rcases hu with rfl | rfl | rfl | rfl | rfl <;> rfl
theorem rowT_owned {w : World} {base : Nat} {v : Value} {r : List Rec} (h : w.ownsRow base 23 5 v r.length (rowC r)) : ∃ ao cap, v = .slice ao r.length cap ∧ RowT w ao r := by
  rcases h.2 with ⟨rfl, h0⟩ | ⟨g, cap, cur, rfl, hg, hh, hn, hc, hs, ht⟩
  · exact ⟨none, 0, by rw [h0], fun i hi => by omega⟩
  · refine ⟨_, cap, rfl, fun i hi => ⟨g, 0, rfl, ?_⟩⟩
    have key : ∀ j, j < 5 → w.cell? ⟨g, i * 5 + j, none⟩ = (recCells (r[i]'hi))[j]? := by
      intro j hj
      rw [h.cellAt (i * 5 + j) (by omega), rowC_at _ _ _ hi hj]
    rw [Nat.zero_add]
    exact ⟨key 0 (by omega), key 1 (by omega), key 2 (by omega), key 3 (by omega), key 4 (by omega)⟩

theorem XRow.keepB {W W' : World} {g n B : Nat} {f : Nat → Rec} (H : XRow W g n f) (hb : Below B W W') (hg : g < B) : XRow W' g n f :=
  ⟨fun i hi => by
    obtain ⟨h0, h1, h2, h3, h4⟩ := H.1 i hi
    exact ⟨(hb.cell (p := ⟨g, _, none⟩) hg).trans h0, (hb.cell (p := ⟨g, _, none⟩) hg).trans h1, (hb.cell (p := ⟨g, _, none⟩) hg).trans h2, (hb.cell (p := ⟨g, _, none⟩) hg).trans h3, (hb.cell (p := ⟨g, _, none⟩) hg).trans h4⟩,
   fun j => (hb.frozen (p := ⟨g, j, none⟩) hg).trans (H.2.1 j), Nat.lt_of_lt_of_le H.2.2 hb.size⟩
theorem BoxF.keepB {W W' : World} {g B : Nat} {x : Rec} (H : BoxF W g x) (hb : Below B W W') (hg : g < B) : BoxF W' g x :=
  ⟨⟨(hb.cell (p := ⟨g, _, none⟩) hg).trans H.1.1, (hb.cell (p := ⟨g, _, none⟩) hg).trans H.1.2.1, (hb.cell (p := ⟨g, _, none⟩) hg).trans H.1.2.2.1, (hb.cell (p := ⟨g, _, none⟩) hg).trans H.1.2.2.2.1, (hb.cell (p := ⟨g, _, none⟩) hg).trans H.1.2.2.2.2⟩,
   fun j => (hb.frozen (p := ⟨g, j, none⟩) hg).trans (H.2.1 j), Nat.lt_of_lt_of_le H.2.2 hb.size⟩
theorem cells_new_n (w : World) (xs : List Value) (t : TypeId) (n : Nat) (h : w.heap.size = n) : ∀ j u, xs[j]? = some u → (w.alloc (.cells xs.toArray t)).cell? ((⟨n, 0, none⟩ : Addr).add j) = some u := by
  subst h
  exact cells_new w xs t
end Go.Proofs.YtpihmbdfhhjleaaDoor
