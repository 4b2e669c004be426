/-
  Nothing is lost: the plain law of all rows.
-/
import Derived.Test.YticonolnagcakaaDoorVwA
import Derived.Laws.OwnMore
import Derived.Deep.QuietTactic
import Derived.Deep.CutBlock
import Derived.Lib.ItoaWalk
import Derived.WalkSmall
import Derived.Lib.OthersKept
import Derived.Deep.DeepCutAuto
import Derived.Test.YticonolnagcakaaDoorVwC
import Derived.Deep.RegionWith
import Derived.Deep.DrawnRows
import Derived.WalkMore
import Derived.Lib.Builder
import Derived.Lib.AppendStr
import Derived.Lib.UnsafeStr
import Derived.Laws.Externs
import Derived.BigQuiet
import Derived.Laws.StructEq
namespace Go.Proofs.YticonolnagcakaaDoor
open Go.RowKit

theorem grown_set (W : World) (b i : Nat) (v : Value) : W.grownBy (W.setCell ⟨b, i, none⟩ v) (some b) :=
  ⟨rfl, rfl, rfl, (by rw [size_setCell]; exact Nat.le_refl _), fun k _ hk => Below.heap_setCell _ _ _ k (fun e => hk (by rw [e]))⟩
/-- a block, known whole -/
def Blk (W : World) (B : Nat) (t : TypeId) (xs : List Value) : Prop := W.heap[B]? = some (.cells xs.toArray t (0, 0))
theorem Blk.lt {W : World} {B : Nat} {t : TypeId} {xs : List Value} (h : Blk W B t xs) : B < W.heap.size := (Array.getElem?_eq_some_iff.1 h).1
theorem Blk.cell {W : World} {B : Nat} {t : TypeId} {xs : List Value} (h : Blk W B t xs) (i : Nat) {v : Value} (hi : xs[i]? = some v) : W.cell? ⟨B, i, none⟩ = some v := by
  simp [World.cell?, show W.heap[B]? = _ from h, hi]
theorem Blk.frozen {W : World} {B : Nat} {t : TypeId} {xs : List Value} (h : Blk W B t xs) (i : Nat) : W.frozen? ⟨B, i, none⟩ = false := by
  simp [World.frozen?, show W.heap[B]? = _ from h]
theorem Blk.set {W : World} {B : Nat} {t : TypeId} {xs : List Value} (h : Blk W B t xs) (i : Nat) (v : Value) : Blk (W.setCell ⟨B, i, none⟩ v) B t (xs.set i v) := by
  have := heap_setCell_same W B i xs.toArray t v h
  simpa [Blk] using this
theorem Blk.kept {W W' : World} {row : Option Nat} {B : Nat} {t : TypeId} {xs : List Value} (h : Blk W B t xs) (hg : W.grownBy W' row) (hne : some B ≠ row) : Blk W' B t xs := (hg.block B h.lt hne).trans h
theorem Blk.other {W : World} {B B' : Nat} {t : TypeId} {xs : List Value} (h : Blk W B t xs) (hne : B ≠ B') (i : Nat) (u : Value) : Blk (W.setCell ⟨B', i, none⟩ u) B t xs := h.kept (grown_set W B' i u) (fun e => hne (by cases e; rfl))
theorem Blk.below {W W' : World} {B : Nat} {t : TypeId} {xs : List Value} (h : Blk W B t xs) (hb : Below W.heap.size W W') : Blk W' B t xs := (hb.block _ h.lt).trans h
theorem Blk.below' {W W' : World} {B C : Nat} {t : TypeId} {xs : List Value} (h : Blk W B t xs) (hb : Below C W W') (hC : B < C) : Blk W' B t xs := (hb.block _ hC).trans h
theorem Blk.alloc {W : World} {B : Nat} {t : TypeId} {xs : List Value} (h : Blk W B t xs) (o : Obj) : Blk (W.alloc o) B t xs := h.below ((Below.refl _ _).alloc (Nat.le_refl _) o)
theorem Blk.new (W : World) (t : TypeId) (xs : List Value) : Blk (W.alloc (.cells xs.toArray t)) W.heap.size t xs := heap_alloc_new W _
theorem Blk.drew {W : World} {B : Nat} {t : TypeId} {xs : List Value} (h : Blk W B t xs) : Blk W.drew B t xs := h
/-- a block of another type is no slice's own row -/
theorem Blk.not_row {W : World} {B : Nat} {t e : TypeId} {xs : List Value} (h : Blk W B t xs) (hte : t ≠ e) {base size k : Nat} {v : Value} {ys : List Value} (hr : W.ownsRow base e size v k ys) : some B ≠ v.ownBlock := by
  rcases hr.2 with ⟨rfl, _⟩ | ⟨g, cap, cur, rfl, _, hgb, _⟩
  · simp [Value.ownBlock]
  · intro e'
    obtain rfl : B = g := by simpa [Value.ownBlock] using e'
    have := (show W.heap[B]? = _ from h).symm.trans hgb
    simp at this
    exact hte this.2
/-- a row stays where a block beneath it is written -/
theorem own_set {w : World} {base : Nat} {e : TypeId} {size : Nat} {v : Value} {n : Nat} {xs : List Value} (h : w.ownsRow base e size v n xs) {B : Nat} (hB : B < base) (i : Nat) (u : Value) : (w.setCell ⟨B, i, none⟩ u).ownsRow base e size v n xs :=
  ownsRow_setCell_below h (a := ⟨B, i, none⟩) hB u

/-- two blocks laid one behind the other -/
theorem two_boxes {w X : World} {xs ys : List Value} {t u : TypeId} (h : (w.alloc (.cells xs.toArray t)).alloc (.cells ys.toArray u) = X) :
    Blk X w.heap.size t xs ∧ Blk X (w.heap.size + 1) u ys ∧ Below w.heap.size w X ∧ X.heap.size = w.heap.size + 2 := by
  subst h
  refine ⟨(Blk.new w t xs).alloc _, ?_, al (al (Below.refl _ _) _) _, by rw [World.size_alloc, World.size_alloc]⟩
  have := Blk.new (w.alloc (.cells xs.toArray t)) u ys
  rwa [World.size_alloc] at this

/-! ### rows of cells, alike many for each element -/
def rowsF (n : Nat) (f : Nat → List Value) : List Value := (List.range n).flatMap f
theorem rowsF_zero (f : Nat → List Value) : rowsF 0 f = [] := rfl
theorem rowsF_succ (n : Nat) (f : Nat → List Value) : rowsF (n + 1) f = rowsF n f ++ f n := by
  unfold rowsF
  rw [List.range_succ, List.flatMap_append]
  simp
theorem rowsF_len (c n : Nat) (f : Nat → List Value) (h : ∀ k, (f k).length = c) : (rowsF n f).length = n * c := by
  induction n with
  | zero => simp [rowsF_zero]
  | succ n ih => rw [rowsF_succ, List.length_append, ih, h, Nat.succ_mul]
theorem rowsF_get (c : Nat) (f : Nat → List Value) (h : ∀ k, (f k).length = c) : ∀ (n i j : Nat), i < n → j < c → (rowsF n f)[i * c + j]? = (f i)[j]? := by
  intro n
  induction n with
  | zero => intro i j hi; omega
  | succ n ih =>
    intro i j hi hj
    rw [rowsF_succ]
    by_cases e : i = n
    · subst e
      have hl := rowsF_len c i f h
      rw [List.getElem?_append_right (by omega), hl]
      congr 1
      omega
    · have hl := rowsF_len c n f h
      have hin : i < n := by omega
      have hm : (i + 1) * c ≤ n * c := Nat.mul_le_mul_right c hin
      rw [Nat.succ_mul] at hm
      rw [List.getElem?_append_left (by rw [hl]; omega)]
      exact ih i j hin hj
theorem rowsF_one (n : Nat) (f : Nat → List Value) (h : ∀ k, ∀ u ∈ f k, u.oneCell' = true) : ∀ u ∈ rowsF n f, u.oneCell' = true := by
  intro u hu
  unfold rowsF at hu
  obtain ⟨k, _, hk⟩ := List.mem_flatMap.1 hu
  exact h k u hk
theorem rowsF_congr (n : Nat) (f g : Nat → List Value) (h : ∀ k, k < n → f k = g k) : rowsF n f = rowsF n g := by
  induction n with
  | zero => rfl
  | succ n ih => rw [rowsF_succ, rowsF_succ, ih (fun k hk => h k (by omega)), h n (by omega)]
/-- a row of elements lies there -/
def RowAt (W : World) (g c n : Nat) (f : Nat → List Value) : Prop := ∀ i j, i < n → j < c → W.cell? ⟨g, i * c + j, none⟩ = (f i)[j]?
theorem RowAt.below {W W' : World} {g c n : Nat} {f : Nat → List Value} (h : RowAt W g c n f) (hf : ∀ k, (f k).length = c) (hb : Below W.heap.size W W') : RowAt W' g c n f := by
  intro i j hi hj
  have h1 := h i j hi hj
  have hjl : j < (f i).length := by rw [hf]; exact hj
  have h2 : (f i)[j]? = some ((f i)[j]'hjl) := List.getElem?_eq_getElem hjl
  rw [h2] at h1 ⊢
  have hlt := World.block_lt_of_cell? W ⟨g, i * c + j, none⟩ h1
  exact (hb.cell (p := ⟨g, i * c + j, none⟩) hlt).trans h1
theorem RowAt.owned {W : World} {base : Nat} {e : TypeId} {g c n cap : Nat} {f : Nat → List Value} (hf : ∀ k, (f k).length = c) (h : W.ownsRow base e c (.slice (some ⟨g, 0, none⟩) n cap) n (rowsF n f)) : RowAt W g c n f := by
  intro i j hi hj
  have hm : (i + 1) * c ≤ n * c := Nat.mul_le_mul_right c hi
  rw [Nat.succ_mul] at hm
  rw [h.cellAt (i * c + j) (by omega), rowsF_get c f hf n i j hi hj]
/-- an owned row, opened -/
theorem own_open {W : World} {base : Nat} {e : TypeId} {c n : Nat} {v : Value} {f : Nat → List Value} (hf : ∀ k, (f k).length = c) (h : W.ownsRow base e c v n (rowsF n f)) : ∃ ao cap, v = .slice ao n cap ∧ n ≤ cap ∧ (0 < n → ∃ g, ao = some ⟨g, 0, none⟩ ∧ base ≤ g ∧ g < W.heap.size ∧ RowAt W g c n f) := by
  rcases h.2 with ⟨rfl, rfl⟩ | ⟨g, cap, cur, rfl, hg, hh, hn, _⟩
  · exact ⟨none, 0, rfl, Nat.le_refl _, fun h => absurd h (Nat.lt_irrefl _)⟩
  · exact ⟨some ⟨g, 0, none⟩, cap, rfl, hn, fun _ => ⟨g, rfl, hg, (Array.getElem?_eq_some_iff.1 hh).1, RowAt.owned hf h⟩⟩
end Go.Proofs.YticonolnagcakaaDoor

namespace Go.Proofs.YticonolnagcakaaDoor
open Go.RowKit

/-- how many columns a character takes from a column on -/
def takesB (W T : Nat) (b : Bool) (r col : Nat) : Nat :=
  if b = false then 1 else if r = 9 then max 1 (min ((col / T + 1) * T) W - col) else widthN (r : Int)

set_option maxHeartbeats 1000000 in
theorem vtakes_any (W T : Nat) (hW : W ≤ 1024) (hT : 1 ≤ T) (hT2 : T ≤ 16) (b : Bool) (r col : Nat) (hcol : col ≤ 1026) (f t l k n : Int) (w : World) :
    Calls Tryd.prog 41 #[.agg #[.int .i64 (W : Nat), .int .i64 (T : Nat)], .agg #[.int .i64 f, .int .i64 t, .int .i32 (r : Nat), .bool b, .int .i64 l, .int .i64 k, .int .i64 n], .int .i64 (col : Nat)] w fun e w' => e = .returned (.int .i64 (takesB W T b r col : Nat)) ∧ Below w.heap.size w w' := by
  have HWD := Lib.hid (fun w => width_any (r : Int) w)
  cases b
  · rw [show takesB W T false r col = 1 from if_pos rfl]
    go_enter Tryd.func41, Tryd.ntmps41
    go_upto_block 0 with fail
    go_name_world X hX
    obtain ⟨hv0, hc0, hb0, -⟩ := two_boxes hX
    have v0 := hv0.cell 0 rfl
    have v1 := hv0.cell 1 rfl
    have c2 := hc0.cell 1 rfl
    have c1 := hc0.cell 2 rfl
    have c3 := hc0.cell 3 rfl
    clear hX
    go_wp2_with fail
    go_ret
    exact ⟨rfl, hb0⟩
  · have e1 : takesB W T true r col = if r = 9 then max 1 (min ((col / T + 1) * T) W - col) else widthN (r : Int) := if_neg (by simp)
    by_cases h9 : r = 9
    · subst h9
      rw [if_pos rfl] at e1
      rw [e1]
      clear e1 HWD
      obtain ⟨q, hq⟩ : ∃ q, col / T = q := ⟨_, rfl⟩
      have hq1 : (col : Int) / (T : Int) = (q : Int) := by rw [← hq]; rfl
      have hq2 : (col : Int).tdiv (T : Int) = (q : Int) := by rw [Int.tdiv_eq_ediv_of_nonneg (by omega)]; exact hq1
      have hqT : (q + 1) * T ≤ col + T := by
        rw [← hq, Nat.succ_mul]
        have := Nat.div_mul_le_self col T
        omega
      have hq3 : ((q : Int) + 1) * (T : Int) = (((q + 1) * T : Nat) : Int) := by rw [Int.natCast_mul, Int.natCast_add]; rfl
      rw [hq]
      obtain ⟨m, hm⟩ : ∃ m, (q + 1) * T = m := ⟨_, rfl⟩
      rw [hm] at hqT hq3 ⊢
      have hT0 : (T : Int) ≠ 0 := by omega
      have hTn : T ≠ 0 := by omega
      have hqm : q ≤ m := by
        rw [← hm, Nat.succ_mul]
        have := Nat.le_mul_of_pos_right q (show 0 < T by omega)
        omega
      have w1 : IntKind.i64.wrap (q : Int) = (q : Int) := by rw [IntKind.wrap_i64]; omega
      have w2 : IntKind.i64.wrap ((q : Int) + 1) = (q : Int) + 1 := by rw [IntKind.wrap_i64]; omega
      have w3 : IntKind.i64.wrap (m : Int) = (m : Int) := by rw [IntKind.wrap_i64]; omega
      clear hq hm
      rcases Nat.lt_or_ge W m with hWm | hWm
      · rw [Nat.min_eq_right (Nat.le_of_lt hWm)]
        have w4 : IntKind.i64.wrap ((W : Int) - (col : Int)) = (W : Int) - (col : Int) := by rw [IntKind.wrap_i64]; omega
        go_enter Tryd.func41, Tryd.ntmps41
        go_upto_block 0 with fail
        go_name_world X hX
        obtain ⟨hv0, hc0, hb0, -⟩ := two_boxes hX
        have v0 := hv0.cell 0 rfl
        have v1 := hv0.cell 1 rfl
        have c2 := hc0.cell 1 rfl
        have c1 := hc0.cell 2 rfl
        have c3 := hc0.cell 3 rfl
        clear hX
        go_wp2_with fail
        go_quiet (fail)
        go_wp2_with fail
        all_goals
          go_ret
          refine ⟨ret_int ?_, below_drewN hb0 _⟩
          omega
      · rw [Nat.min_eq_left hWm]
        have w4 : IntKind.i64.wrap ((m : Int) - (col : Int)) = (m : Int) - (col : Int) := by rw [IntKind.wrap_i64]; omega
        have hWd : ¬ W < m := by omega
        go_enter Tryd.func41, Tryd.ntmps41
        go_upto_block 0 with fail
        go_name_world X hX
        obtain ⟨hv0, hc0, hb0, -⟩ := two_boxes hX
        have v0 := hv0.cell 0 rfl
        have v1 := hv0.cell 1 rfl
        have c2 := hc0.cell 1 rfl
        have c1 := hc0.cell 2 rfl
        have c3 := hc0.cell 3 rfl
        clear hX
        go_wp2_with fail
        go_quiet (fail)
        go_wp2_with fail
        all_goals
          go_ret
          refine ⟨ret_int ?_, below_drewN hb0 _⟩
          omega
    · rw [if_neg h9] at e1
      rw [e1]
      clear e1
      have hd' : ((r : Int) == 9) = false := beq_eq_false_iff_ne.2 (by omega)
      have hd2 : ((r : Int) != 9) = true := bne_iff_ne.2 (by omega)
      clear h9
      go_enter Tryd.func41, Tryd.ntmps41
      go_upto_block 0 with fail
      go_name_world X hX
      obtain ⟨hv0, hc0, hb0, -⟩ := two_boxes hX
      have v0 := hv0.cell 0 rfl
      have v1 := hv0.cell 1 rfl
      have c2 := hc0.cell 1 rfl
      have c1 := hc0.cell 2 rfl
      have c3 := hc0.cell 3 rfl
      clear hX
      go_wp2_with (first | (go_at_call 37; (with_reducible refine (HWD.out _).mono ?_); rintro e w2 ⟨rfl, rfl⟩))
      go_ret
      exact ⟨rfl, hb0⟩
end Go.Proofs.YticonolnagcakaaDoor

namespace Go.Proofs.YticonolnagcakaaDoor
open Go.RowKit

/-- how many columns a character takes from a column on -/
def takesV (W T : Nat) (c : Nat × Nat) (col : Nat) : Nat :=
  if rightR (c.1 : Int) c.2 = false then 1 else if c.1 = 9 then max 1 (min ((col / T + 1) * T) W - col) else widthN (c.1 : Int)
/-- where a character is put, and how many columns it takes there -/
def putV (W T : Nat) (st : Nat × Nat) (c : Nat × Nat) : (Nat × Nat) × Nat :=
  if 0 < takesV W T c st.2 ∧ 0 < st.2 ∧ W < st.2 + takesV W T c st.2 then ((st.1 + 1, 0), takesV W T c 0) else (st, takesV W T c st.2)
def nextP (W T : Nat) (st : Nat × Nat) (c : Nat × Nat) : Nat × Nat := ((putV W T st c).1.1, (putV W T st c).1.2 + (putV W T st c).2)
/-- the spot behind so many characters -/
def stV (W T : Nat) (cs : List (Nat × Nat)) : Nat → Nat × Nat
  | 0 => (0, 0)
  | k + 1 => nextP W T (stV W T cs k) (cs[k]?.getD (0, 0))
def spV (W T : Nat) (cs : List (Nat × Nat)) (k : Nat) : Nat × Nat := (putV W T (stV W T cs k) (cs[k]?.getD (0, 0))).1
def tkV (W T : Nat) (cs : List (Nat × Nat)) (k : Nat) : Nat := (putV W T (stV W T cs k) (cs[k]?.getD (0, 0))).2
theorem st_succ (W T : Nat) (cs : List (Nat × Nat)) (k : Nat) : stV W T cs (k + 1) = ((spV W T cs k).1, (spV W T cs k).2 + tkV W T cs k) := rfl

theorem takes_le (W T : Nat) (c : Nat × Nat) (col : Nat) : takesV W T c col ≤ max 2 W := by
  unfold takesV
  have := width_le (c.1 : Int)
  split
  · omega
  · split
    · omega
    · omega
theorem takes_tab (W T : Nat) (c : Nat × Nat) (col : Nat) (hc : col < W) (h : rightR (c.1 : Int) c.2 = true) (h9 : c.1 = 9) : col + takesV W T c col ≤ W := by
  unfold takesV
  rw [if_neg (by rw [h]; simp), if_pos h9]
  omega
/-- either the spot stays, or a new row begins -/
theorem put_cases (W T : Nat) (st : Nat × Nat) (c : Nat × Nat) :
    ((putV W T st c).1 = st ∧ (putV W T st c).2 = takesV W T c st.2 ∧ (takesV W T c st.2 = 0 ∨ st.2 = 0 ∨ st.2 + takesV W T c st.2 ≤ W)) ∨
    ((putV W T st c).1 = (st.1 + 1, 0) ∧ (putV W T st c).2 = takesV W T c 0 ∧ 0 < takesV W T c st.2 ∧ 0 < st.2 ∧ W < st.2 + takesV W T c st.2) := by
  unfold putV
  by_cases h : 0 < takesV W T c st.2 ∧ 0 < st.2 ∧ W < st.2 + takesV W T c st.2
  · rw [if_pos h]
    exact .inr ⟨rfl, rfl, h⟩
  · rw [if_neg h]
    exact .inl ⟨rfl, rfl, by omega⟩
theorem st_col (W T : Nat) (cs : List (Nat × Nat)) : ∀ k, (stV W T cs k).2 ≤ max 2 W
  | 0 => Nat.zero_le _
  | k + 1 => by
    have ih := st_col W T cs k
    rw [st_succ]
    show (spV W T cs k).2 + tkV W T cs k ≤ max 2 W
    unfold spV tkV
    rcases put_cases W T (stV W T cs k) (cs[k]?.getD (0, 0)) with ⟨h1, h2, h3⟩ | ⟨h1, h2, _⟩
    · rw [h1, h2]
      rcases h3 with h | h | h
      · rw [h]; omega
      · rw [h]
        have := takes_le W T (cs[k]?.getD (0, 0)) 0
        omega
      · omega
    · rw [h1, h2]
      have := takes_le W T (cs[k]?.getD (0, 0)) 0
      show 0 + _ ≤ _
      omega
theorem sp_row (W T : Nat) (cs : List (Nat × Nat)) (k : Nat) : (stV W T cs k).1 ≤ (spV W T cs k).1 ∧ (spV W T cs k).1 ≤ (stV W T cs k).1 + 1 ∧ (stV W T cs (k + 1)).1 = (spV W T cs k).1 := by
  refine ⟨?_, ?_, rfl⟩
  · unfold spV
    rcases put_cases W T (stV W T cs k) (cs[k]?.getD (0, 0)) with ⟨h1, _⟩ | ⟨h1, _⟩ <;> rw [h1]
    · exact Nat.le_refl _
    · exact Nat.le_succ _
  · unfold spV
    rcases put_cases W T (stV W T cs k) (cs[k]?.getD (0, 0)) with ⟨h1, _⟩ | ⟨h1, _⟩ <;> rw [h1]
    · exact Nat.le_succ _
    · exact Nat.le_refl _
theorem st_row (W T : Nat) (cs : List (Nat × Nat)) : ∀ k, (stV W T cs k).1 ≤ k
  | 0 => Nat.le_refl _
  | k + 1 => by
    have ih := st_row W T cs k
    have h := sp_row W T cs k
    omega

/-- a row: characters, bytes, columns -/
structure RowV where
  fr : Nat
  tx : Nat
  pf : Nat
  pt : Nat
  co : Nat
def rowC (r : RowV) : List Value := [.int .i64 (r.fr : Nat), .int .i64 (r.tx : Nat), .int .i64 (r.pf : Nat), .int .i64 (r.pt : Nat), .int .i64 (r.co : Nat)]
def rowZ : RowV := ⟨0, 0, 0, 0, 0⟩
/-- the rows behind so many characters: the row that is being filled, and those ahead of it -/
def rowsV (W T : Nat) (l : Bs) : Nat → List RowV × RowV
  | 0 => ([], rowZ)
  | k + 1 =>
    let p := rowsV W T l k
    if (spV W T (tk l) k).1 ≤ p.1.length then (p.1, ⟨p.2.fr, k + 1, p.2.pf, atN l (k + 1), p.2.co + tkV W T (tk l) k⟩)
    else (p.1 ++ [p.2], ⟨k, k + 1, atN l k, atN l (k + 1), tkV W T (tk l) k⟩)
def rowsL (W T : Nat) (l : Bs) (k : Nat) : List RowV := (rowsV W T l k).1 ++ [(rowsV W T l k).2]
theorem rows_len (W T : Nat) (l : Bs) : ∀ k, (rowsV W T l k).1.length = (stV W T (tk l) k).1
  | 0 => rfl
  | k + 1 => by
    have ih := rows_len W T l k
    have h := sp_row W T (tk l) k
    unfold rowsV
    dsimp only
    split
    · rename_i h1
      show (rowsV W T l k).1.length = _
      omega
    · rename_i h1
      show ((rowsV W T l k).1 ++ [_]).length = _
      rw [List.length_append, List.length_singleton]
      omega
end Go.Proofs.YticonolnagcakaaDoor

namespace Go.Proofs.YticonolnagcakaaDoor
open Go.RowKit

theorem takesV_B (W T : Nat) (c : Nat × Nat) (col : Nat) : takesV W T c col = takesB W T (rightR (c.1 : Int) c.2) c.1 col := rfl

/-- the cells of a character that has been put -/
def chV (f t r : Nat) (b : Bool) (li co n : Nat) : List Value := [.int .i64 (f : Nat), .int .i64 (t : Nat), .int .i32 (r : Nat), .bool b, .int .i64 (li : Nat), .int .i64 (co : Nat), .int .i64 (n : Nat)]
def chC (W T : Nat) (l : Bs) (k : Nat) : List Value := chV (atN l k) (atN l (k + 1)) ((tk l)[k]?.getD (0, 0)).1 (rightR (((tk l)[k]?.getD (0, 0)).1 : Int) ((tk l)[k]?.getD (0, 0)).2) (spV W T (tk l) k).1 (spV W T (tk l) k).2 (tkV W T (tk l) k)
theorem chC_len (W T : Nat) (l : Bs) (k : Nat) : (chC W T l k).length = 7 := rfl
theorem chV_one (f t r : Nat) (b : Bool) (li co n : Nat) : ∀ u ∈ chV f t r b li co n, u.oneCell' = true := by
  intro u hu
  simp [chV] at hu
  rcases hu with rfl | rfl | rfl | rfl | rfl | rfl | rfl <;> rfl

theorem grown_trans {a b c : World} {row : Option Nat} (h : a.grownBy b row) (k : b.grownBy c row) : a.grownBy c row :=
  ⟨k.os.trans h.os, k.tape.trans h.tape, k.output.trans h.output, Nat.le_trans h.size k.size, fun i hi hr => (k.block i (Nat.lt_of_lt_of_le hi h.size) hr).trans (h.block i hi hr)⟩
theorem stored7 {V X : World} {B : Nat} {t : TypeId} {x0 x1 x2 x3 x4 x5 x6 a0 a1 a2 a3 a4 a5 a6 : Value} (h : Blk V B t [x0, x1, x2, x3, x4, x5, x6])
    (hX : (((((((V.setCell ⟨B, 0, none⟩ a0).setCell ⟨B, 1, none⟩ a1).setCell ⟨B, 2, none⟩ a2).setCell ⟨B, 3, none⟩ a3).setCell ⟨B, 4, none⟩ a4).setCell ⟨B, 5, none⟩ a5).setCell ⟨B, 6, none⟩ a6) = X) :
    Blk X B t [a0, a1, a2, a3, a4, a5, a6] ∧ V.grownBy X (some B) := by
  subst hX
  have h7 := ((((((h.set 0 a0).set 1 a1).set 2 a2).set 3 a3).set 4 a4).set 5 a5).set 6 a6
  simp only [List.set_cons_zero, List.set_cons_succ] at h7
  refine ⟨h7, grown_trans (grown_set _ B 0 a0) (grown_trans (grown_set _ B 1 a1) (grown_trans (grown_set _ B 2 a2) (grown_trans (grown_set _ B 3 a3) (grown_trans (grown_set _ B 4 a4) (grown_trans (grown_set _ B 5 a5) (grown_set _ B 6 a6))))))⟩
theorem stored2 {V X : World} {B i j : Nat} {t : TypeId} {xs : List Value} {a b : Value} (h : Blk V B t xs)
    (hX : (V.setCell ⟨B, i, none⟩ a).setCell ⟨B, j, none⟩ b = X) : Blk X B t ((xs.set i a).set j b) ∧ V.grownBy X (some B) := by
  subst hX
  exact ⟨(h.set i a).set j b, grown_trans (grown_set _ B i a) (grown_set _ B j b)⟩
theorem stored1 {V X : World} {B i : Nat} {t : TypeId} {xs : List Value} {a : Value} (h : Blk V B t xs)
    (hX : V.setCell ⟨B, i, none⟩ a = X) : Blk X B t (xs.set i a) ∧ V.grownBy X (some B) := by
  subst hX
  exact ⟨h.set i a, grown_set V B i a⟩

/-- what stands while a line is put -/
structure PutS (W T : Nat) (s : ByteArray) (l : Bs) (w : World) (v : Value) (k p li co : Nat) (X : World) : Prop where
  it : X.heap[w.heap.size + 3]? = some (.stringIter s p)
  vw : Blk X w.heap.size 64 [.int .i64 (W : Nat), .int .i64 (T : Nat)]
  rs : Blk X (w.heap.size + 1) 42 [.int .i64 0, .int .i64 0]
  sp : Blk X (w.heap.size + 2) 42 [.int .i64 (li : Nat), .int .i64 (co : Nat)]
  row : X.ownsRow (w.heap.size + 4) 67 7 v k (rowsF k (chC W T l))
  bel : Below w.heap.size w X
  siz : w.heap.size + 4 ≤ X.heap.size

section
variable {W T : Nat} {s : ByteArray} {l : Bs} {w : World} {v : Value} {k p li co : Nat} {X Y : World}
theorem PutS.below (h : PutS W T s l w v k p li co X) (hb : Below X.heap.size X Y) : PutS W T s l w v k p li co Y :=
  ⟨(hb.block _ (by have := h.siz; omega)).trans h.it, h.vw.below hb, h.rs.below hb, h.sp.below hb, owns_below h.row hb (Nat.le_refl _), nx h.bel hb, Nat.le_trans h.siz hb.size⟩
theorem PutS.grown (h : PutS W T s l w v k p li co X) {B : Nat} (hg : X.grownBy Y (some B)) (hB : w.heap.size + 4 ≤ B) (hv : v.ownBlock = none ∨ v.ownBlock ≠ some B) : PutS W T s l w v k p li co Y :=
  ⟨(hg.block _ (by have := h.siz; omega) (by simp; omega)).trans h.it, h.vw.kept hg (by simp; omega), h.rs.kept hg (by simp; omega), h.sp.kept hg (by simp; omega), h.row.kept hg hv,
    h.bel.grown hg h.bel.size (fun q e => by injection e with e; omega), Nat.le_trans h.siz hg.size⟩
theorem PutS.spot (h : PutS W T s l w v k p li co X) {li' co' : Nat} {a b : Value} (ha : a = .int .i64 (li' : Nat)) (hb : b = .int .i64 (co' : Nat)) (hX : (X.setCell ⟨w.heap.size + 2, 0, none⟩ a).setCell ⟨w.heap.size + 2, 1, none⟩ b = Y) : PutS W T s l w v k p li' co' Y := by
  obtain ⟨h1, hg⟩ := stored2 h.sp hX
  subst ha hb
  exact ⟨(hg.block _ (by have := h.siz; omega) (by simp)).trans h.it, h.vw.kept hg (by simp), h.rs.kept hg (by simp), h1, h.row.kept hg (by
      rcases e : v.ownBlock with _ | q
      · exact .inl rfl
      · refine .inr fun e' => ?_
        injection e' with e'
        have := (h.row.lt q e).1
        omega),
    h.bel.grown hg h.bel.size (fun q e => by injection e with e; omega), Nat.le_trans h.siz hg.size⟩
theorem PutS.col (h : PutS W T s l w v k p li co X) {co' : Nat} {b : Value} (hb : b = .int .i64 (co' : Nat)) (hX : X.setCell ⟨w.heap.size + 2, 1, none⟩ b = Y) : PutS W T s l w v k p li co' Y := by
  obtain ⟨h1, hg⟩ := stored1 h.sp hX
  subst hb
  exact ⟨(hg.block _ (by have := h.siz; omega) (by simp)).trans h.it, h.vw.kept hg (by simp), h.rs.kept hg (by simp), h1, h.row.kept hg (by
      rcases e : v.ownBlock with _ | q
      · exact .inl rfl
      · refine .inr fun e' => ?_
        injection e' with e'
        have := (h.row.lt q e).1
        omega),
    h.bel.grown hg h.bel.size (fun q e => by injection e with e; omega), Nat.le_trans h.siz hg.size⟩
theorem PutS.iter (h : PutS W T s l w v k p li co X) (p' : Nat) : PutS W T s l w v k p' li co (X.iterAt (w.heap.size + 3) s p') := by
  have hb : Below (w.heap.size + 3) X (X.iterAt (w.heap.size + 3) s p') := Lib.below_iterAt (Below.refl _ _) (Nat.le_refl _) s p'
  have hne : ∀ j, j ≠ w.heap.size + 3 → (X.iterAt (w.heap.size + 3) s p').heap[j]? = X.heap[j]? := fun j hj => Lib.iterAt_other X _ j s p' hj
  refine ⟨Lib.iterAt_heap X _ s p p' h.it, h.vw.below' hb (by omega), h.rs.below' hb (by omega), h.sp.below' hb (by omega), ?_, h.bel.trans (hb.mono (by omega)), Nat.le_trans h.siz hb.size⟩
  refine h.row.kept (row := some (w.heap.size + 3)) ⟨rfl, rfl, rfl, hb.size, fun j _ hj => hne j (fun e => hj (by rw [e]))⟩ ?_
  rcases e : v.ownBlock with _ | q
  · exact .inl rfl
  · refine .inr fun e' => ?_
    injection e' with e'
    have := (h.row.lt q e).1
    omega
/-- one more character -/
theorem PutS.more (h : PutS W T s l w v k p li co X) {o : Obj} {v' : Value} {xs : List Value} (hown : Y.ownsRow (w.heap.size + 4) 67 7 v' (k + 1) (rowsF k (chC W T l) ++ xs)) (hx : xs = chC W T l k) (hg : (X.alloc o).grownBy Y v.ownBlock) : PutS W T s l w v' (k + 1) p li co Y := by
  have h1 := h.below (al (Below.refl _ _) o)
  have hne : ∀ j, j < w.heap.size + 4 → some j ≠ v.ownBlock := fun j hj e => by
    have := (h.row.lt j e.symm).1
    omega
  subst hx
  exact ⟨(hg.block _ (by have := h1.siz; omega) (hne _ (by omega))).trans h1.it, h1.vw.kept hg (hne _ (by omega)), h1.rs.kept hg (hne _ (by omega)), h1.sp.kept hg (hne _ (by omega)), by rw [rowsF_succ]; exact hown,
    h1.bel.grown hg h1.bel.size (fun q e => by have := (h.row.lt q e).1; omega), Nat.le_trans h1.siz hg.size⟩
theorem PutS.own_ne (h : PutS W T s l w v k p li co X) {B : Nat} (hB : X.heap.size ≤ B) : v.ownBlock = none ∨ v.ownBlock ≠ some B := by
  rcases e : v.ownBlock with _ | q
  · exact .inl rfl
  · refine .inr fun e' => ?_
    injection e' with e'
    have := (h.row.lt q e).2
    omega
end
theorem putS_start (W T : Nat) (s : ByteArray) (l : Bs) (w X : World) (hX : (((w.alloc (.cells #[.int .i64 (W : Nat), .int .i64 (T : Nat)] 64)).alloc (.cells #[.int .i64 0, .int .i64 0] 42)).alloc (.cells #[.int .i64 0, .int .i64 0] 42)).alloc (.stringIter s 0) = X) :
    PutS W T s l w (.slice none 0 0) 0 0 0 0 X := by
  subst hX
  have e : (((w.alloc (.cells #[.int .i64 (W : Nat), .int .i64 (T : Nat)] 64)).alloc (.cells #[.int .i64 0, .int .i64 0] 42)).alloc (.cells #[.int .i64 0, .int .i64 0] 42)).alloc (.stringIter s 0) = allocs w [.cells #[.int .i64 (W : Nat), .int .i64 (T : Nat)] 64, .cells #[.int .i64 0, .int .i64 0] 42, .cells #[.int .i64 0, .int .i64 0] 42, .stringIter s 0] := rfl
  rw [e]
  refine ⟨allocs_get _ w 3 _ rfl, allocs_get _ w 0 _ rfl, allocs_get _ w 1 _ rfl, allocs_get _ w 2 _ rfl, World.ownsRow_nil _ _ _ _, allocs_below _ _ _ (Below.refl _ _), by rw [allocs_size]; exact Nat.le_refl _⟩
end Go.Proofs.YticonolnagcakaaDoor

namespace Go.Proofs.YticonolnagcakaaDoor
open Go.RowKit

theorem info_vchar : (Tryd.prog.info? 67).map (fun i => (i.zero, i.size, i.bytes)) = some (some (.agg #[.int .i64 0, .int .i64 0, .int .i32 0, .bool false, .int .i64 0, .int .i64 0, .int .i64 0]), 7, 48) := by kernel_rfl

set_option maxRecDepth 100000 in
set_option maxHeartbeats 4000000 in
theorem vput_any (W T : Nat) (hW : 1 ≤ W) (hW2 : W ≤ 1024) (hT1 : 1 ≤ T) (hT2 : T ≤ 16) (s : ByteArray) (hs : s.size ≤ 1099511627776) (w : World) (hT : Tabs w) :
    Calls Tryd.prog 27 #[.agg #[.int .i64 (W : Nat), .int .i64 (T : Nat)], .string s] w fun e w' => ∃ v, e = .returned (.tuple #[v, .agg #[.int .i64 ((stV W T (tk (bs s)) (countN (bs s))).1 : Nat), .int .i64 ((stV W T (tk (bs s)) (countN (bs s))).2 : Nat)]]) ∧
      w'.ownsRow w.heap.size 67 7 v (countN (bs s)) (rowsF (countN (bs s)) (chC W T (bs s))) ∧ Below w.heap.size w w' := by
  obtain ⟨i0, hi, hz0, hz1, hz2⟩ := info_parts info_vchar
  obtain ⟨l, hl⟩ : ∃ l, bs s = l := ⟨_, rfl⟩
  have HL := Lib.hid hl
  have hlen : l.length = s.size := by rw [← hl, size_bs]
  have HLEN := Lib.hid hlen
  rw [hl]
  clear hl hlen
  have HT := Lib.hid hT
  clear hT
  go_enter Tryd.func27, Tryd.ntmps27
  go_upto_block 0 with fail
  go_name_world X hX
  have hS0 := putS_start W T s l w X hX
  clear hX
  rw [show w.heap.size + 1 + 1 + 1 = w.heap.size + 3 from rfl, show w.heap.size + 1 + 1 = w.heap.size + 2 from rfl]
  go_wp2_with fail
  go_loopw [6] (fun v wr => ∃ done p, Cut l done p ∧ PutS W T s l w v done.length p (stV W T (tk l) done.length).1 (stV W T (tk l) done.length).2 wr) (fun _ wr => s.size - wr.iterPos (w.heap.size + 3))
  case atStart => exact ⟨[], 0, Cut.zero _, hS0⟩
  case round =>
    clear hS0
    obtain ⟨done, p, hc, hS⟩ := hrel
    have hkp := hc.len_le
    have hpl := hc.1
    have hll := HLEN.out
    have hcb := st_col W T (tk l) done.length
    have hrb := st_row W T (tk l) done.length
    obtain ⟨st, hst⟩ : ∃ st, stV W T (tk l) done.length = st := ⟨_, rfl⟩
    rw [hst] at hS hcb hrb
    obtain ⟨li, co⟩ := st
    simp only at hS hcb hrb
    have HST := Lib.hid hst
    have hw2 : max 2 W ≤ 1024 := by omega
    by_cases hp : p < s.size
    · have hp' : p < l.length := by omega
      have hnx := fun ty => Lib.run_next_any_at (P := Tryd.prog) wr (w.heap.size + 3) s p ty hS.it hp
      rw [decode_bs, HL.out] at hnx
      have hcs := hc.step hp'
      have hw := (wid_bounds (l.drop p)).1
      have hget := hc.get hp'
      have hle : p + (Lib.decodeL (l.drop p)).2 ≤ l.length := hcs.1
      have hd1 : ((Lib.decodeL (bs (s.extract p s.size))).1 : Int) = ((Lib.decodeL (l.drop p)).1 : Nat) := by rw [bs_drop, HL.out]
      have hd2 : (Lib.decodeL (bs (s.extract p s.size))).2 = (Lib.decodeL (l.drop p)).2 := by rw [bs_drop, HL.out]
      have hE : (s.extract p s.size).size ≠ 0 := by rw [size_bs, bs_drop]; simp; omega
      obtain ⟨d, hd⟩ : ∃ d, d = Lib.decodeL (l.drop p) := ⟨_, rfl⟩
      rw [← hd] at hnx hcs hw hget hle hd1 hd2
      obtain ⟨r, n⟩ := d
      simp only at hnx hw hcs hle hd1 hd2
      have HF := Lib.hid (fun w hT => first_some (s.extract p s.size) (r : Int) n hE hd1 hd2 w hT)
      have hS1 := hS.iter (p + n)
      obtain ⟨b, hb⟩ : ∃ b, rightR (r : Int) n = b := ⟨_, rfl⟩
      rw [hb] at HF
      obtain ⟨V, hV⟩ : ∃ V, wr.iterAt (w.heap.size + 3) s (p + n) = V := ⟨_, rfl⟩
      rw [hV] at hnx hS1
      have HIP := Lib.hid (show wr.iterPos (w.heap.size + 3) = p from iterPos_of hS.it)
      have hk9 : done.length ≤ 1099511627776 := by omega
      have hp9 : p ≤ 1099511627776 := by omega
      clear hV hd hS hE hd1 hd2
      go_upto_region 7 with (first | (go_at_call 40; (with_reducible refine (HF.out _ (HT.out.below (hS1.bel) (Nat.le_refl _))).mono ?_); rintro e w1 ⟨rfl, hb1⟩))
      have hS2 := hS1.below hb1
      clear hS1 hb1 hnx
      go_upto_region 8 with fail
      go_name_world X8 hX8
      have hC8 : Blk X8 w1.heap.size 67 [.int .i64 (p : Nat), .int .i64 ((p : Int) + (n : Int)), .int .i32 (r : Nat), .bool b, .int .i64 0, .int .i64 0, .int .i64 0] := by rw [← hX8]; exact Blk.new w1 _ _
      have hS8 : PutS W T s l w u6 done.length (p + n) li co X8 := by rw [← hX8]; exact hS2.below (al (Below.refl _ _) _)
      have hCl : w.heap.size + 4 ≤ w1.heap.size := hS2.siz
      have hCo := hS2.own_ne (Nat.le_refl _)
      rw [show (p : Int) + (n : Int) = ((p + n : Nat) : Int) from rfl] at hC8
      obtain ⟨q, hq⟩ : ∃ q, p + n = q := ⟨_, rfl⟩
      obtain ⟨C, hC⟩ : ∃ C, w1.heap.size = C := ⟨_, rfl⟩
      rw [hC] at hC8 hCl hCo ⊢
      rw [hq] at hC8 hS8 hcs hle
      have HTK := Lib.hid (fun co hco w => vtakes_any W T hW2 hT1 hT2 b r co hco p q 0 0 0 w)
      clear hX8 hS2 hC
      have v0 := hS8.vw.cell 0 rfl
      have v1 := hS8.vw.cell 1 rfl
      have p1 := hS8.sp.cell 1 rfl
      have c0 := hC8.cell 0 rfl
      have c1 := hC8.cell 1 rfl
      have c2 := hC8.cell 2 rfl
      have c3 := hC8.cell 3 rfl
      have c4 := hC8.cell 4 rfl
      have c5 := hC8.cell 5 rfl
      have c6 := hC8.cell 6 rfl
      obtain ⟨t1, ht1⟩ : ∃ t1, takesB W T b r co = t1 := ⟨_, rfl⟩
      go_upto_region 9 with (first | (go_at_call 41; (with_reducible refine (HTK.out co (by omega) _).mono ?_); rintro e w4 ⟨rfl, hb4⟩; have g6 := (hC8.below hb4).cell 6 rfl; have f6 := (hC8.below hb4).frozen 6))
      go_name_world X9 hX9
      obtain ⟨hC9, hg9⟩ := stored1 (hC8.below hb4) hX9
      have hS9 := (hS8.below hb4).grown hg9 hCl hCo
      simp only [List.set_cons_zero, List.set_cons_succ] at hC9
      have ht1v : takesV W T (r, n) co = t1 := by rw [takesV_B, ← ht1, ← hb]
      have ht1b : t1 ≤ 1024 := by have := takes_le W T (r, n) co; omega
      have hwp : putV W T (li, co) (r, n) = if 0 < t1 ∧ 0 < co ∧ W < co + t1 then ((li + 1, 0), takesV W T (r, n) 0) else ((li, co), t1) := by rw [← ht1v]; rfl
      have HTK0 := Lib.hid (fun (x : Int) w => vtakes_any W T hW2 hT1 hT2 b r 0 (Nat.zero_le _) p q 0 0 x w)
      rw [show ((0 : Nat) : Int) = 0 from rfl] at HTK0
      have hHX : takesV W T (r, n) 0 = takesB W T b r 0 := by rw [takesV_B, ← hb]
      obtain ⟨t2, ht2⟩ : ∃ t2, takesB W T b r 0 = t2 := ⟨_, rfl⟩
      rw [ht2] at HTK0 hHX
      rw [hHX] at hwp
      have hspe : spV W T (tk l) done.length = (putV W T (li, co) (r, n)).1 := by unfold spV; rw [HST.out, hget]
      have htke : tkV W T (tk l) done.length = (putV W T (li, co) (r, n)).2 := by unfold tkV; rw [HST.out, hget]
      have ht2b : t2 ≤ 1024 := by have := takes_le W T (r, n) 0; omega
      have HGET := Lib.hid hget
      clear hS8 hC8 hb4 hX9 hg9 v0 v1 p1 c0 c1 c2 c3 c4 c5 c6 g6 f6 ht1 ht1v ht2 hHX HTK hget HF
      have v0 := hS9.vw.cell 0 rfl
      have p0 := hS9.sp.cell 0 rfl
      have p1 := hS9.sp.cell 1 rfl
      have c6 : X9.cell? ⟨C, 6, none⟩ = _ := hC9.cell 6 rfl
      obtain ⟨ov, hov⟩ : ∃ ov, decide (0 < t1 ∧ 0 < co ∧ W < co + t1) = ov := ⟨_, rfl⟩
      have HOV := Lib.hid hov
      clear hov
      go_cut [59] from 42 to 59 (fun c wx => X9 = wx ∧ c = .bool ov)
      case first =>
        cases ov
        · have hno := of_decide_eq_false HOV.out
          by_cases h1 : 0 < t1
          · by_cases h2 : 0 < co
            · have h3' : co + t1 ≤ W := by omega
              clear hno
              go_wp2_with fail
              all_goals (go_meet; exact ⟨rfl, congrArg Value.bool (decide_eq_false (by omega))⟩)
            · obtain rfl : co = 0 := by omega
              clear hno
              go_wp2_with fail
              all_goals (go_meet; exact ⟨rfl, rfl⟩)
          · obtain rfl : t1 = 0 := by omega
            clear hno
            go_wp2_with fail
            all_goals (go_meet; exact ⟨rfl, rfl⟩)
        · obtain ⟨h1, h2, h3⟩ := of_decide_eq_true HOV.out
          go_wp2_with fail
          all_goals (go_meet; exact ⟨rfl, congrArg Value.bool (decide_eq_true (by omega))⟩)
      case rest =>
        obtain ⟨rfl, rfl⟩ := hcut
        obtain ⟨⟨⟨sl, sc⟩, tn⟩, hpv⟩ : ∃ x, putV W T (li, co) (r, n) = x := ⟨_, rfl⟩
        rw [hpv] at hspe htke hwp
        have HSP := Lib.hid hspe
        have HTN := Lib.hid htke
        clear hspe htke hpv
        have hsc : sc + tn ≤ 1024 := by
          have := st_col W T (tk l) (done.length + 1)
          rw [st_succ, HSP.out, HTN.out] at this
          simp only at this
          omega
        go_upto_if 59 with fail
        go_cut [60] from 60 to 67 (fun _ wx => PutS W T s l w u6 done.length q sl sc wx ∧ Blk wx C 67 [.int .i64 (p : Nat), .int .i64 (q : Nat), .int .i32 (r : Nat), .bool b, .int .i64 0, .int .i64 0, .int .i64 (tn : Nat)])
        case first =>
          cases ov
          · have hno := of_decide_eq_false HOV.out
            rw [if_neg hno] at hwp
            injection hwp with hw1 hw2'
            injection hw1 with hw3 hw4
            subst hw2' hw3 hw4
            go_wp2_with fail
            go_meet
            exact ⟨hS9, hC9⟩
          · obtain ⟨h1, h2, h3⟩ := of_decide_eq_true HOV.out
            rw [if_pos ⟨h1, h2, h3⟩] at hwp
            injection hwp with hw1 hw2'
            injection hw1 with hw3 hw4
            subst hw2' hw3 hw4
            have z0 := hS9.sp.frozen 0
            have z1 := hS9.sp.frozen 1
            go_upto_region 11 with fail
            go_name_world X10 hX10
            have hS10 := hS9.spot (li' := li + 1) (co' := 0) rfl rfl hX10
            have hC10 := hC9.kept (stored2 hS9.sp hX10).2 (by simp; omega)
            clear hX10 hS9 hC9 v0 p0 p1 c6 z0 z1
            have v0 := hS10.vw.cell 0 rfl
            have v1 := hS10.vw.cell 1 rfl
            have c0 := hC10.cell 0 rfl
            have c1 := hC10.cell 1 rfl
            have c2 := hC10.cell 2 rfl
            have c3 := hC10.cell 3 rfl
            have c4 := hC10.cell 4 rfl
            have c5 := hC10.cell 5 rfl
            have c6 := hC10.cell 6 rfl
            go_wp2_with (first | (go_at_call 41; (with_reducible refine (HTK0.out _ _).mono ?_); rintro e w5 ⟨rfl, hb5⟩; have g6 := (hC10.below hb5).cell 6 rfl; have f6 := (hC10.below hb5).frozen 6))
            go_meet
            obtain ⟨hC11, hg11⟩ := stored1 (hC10.below hb5) (i := 6) (a := .int .i64 (tn : Nat)) rfl
            exact ⟨(hS10.below hb5).grown hg11 hCl hCo, hC11⟩
        case rest =>
          obtain ⟨hS, hC⟩ := hcut
          clear hS9 hC9 v0 p0 p1 c6 HTK0 hwp HOV
          have p0 := hS.sp.cell 0 rfl
          have p1 := hS.sp.cell 1 rfl
          have f4 := hC.frozen 4
          have f5 := hC.frozen 5
          have c4 := hC.cell 4 rfl
          have c5 := hC.cell 5 rfl
          go_upto_region 13 with fail
          go_name_world X12 hX12
          obtain ⟨hC12, hg12⟩ := stored2 hC hX12
          simp only [List.set_cons_zero, List.set_cons_succ] at hC12
          have hS12 := hS.grown hg12 hCl hCo
          clear hX12 hg12 hS hC p0 p1 f4 f5 c4 c5
          have p1 := hS12.sp.cell 1 rfl
          have z1 := hS12.sp.frozen 1
          have c6 := hC12.cell 6 rfl
          go_upto_region 14 with fail
          go_name_world X13 hX13
          have hS13 := hS12.col (co' := sc + tn) rfl hX13
          have hC13 := hC12.kept (stored1 hS12.sp hX13).2 (by simp; omega)
          clear hX13 hS12 hC12 p1 z1 c6
          have c0 := hC13.cell 0 rfl
          have c1 := hC13.cell 1 rfl
          have c2 := hC13.cell 2 rfl
          have c3 := hC13.cell 3 rfl
          have c4 := hC13.cell 4 rfl
          have c5 := hC13.cell 5 rfl
          have c6 := hC13.cell 6 rfl
          have hsz13 := hS13.siz
          go_wp2_with (at_builtin; refine wpList_append_own _ rfl _ _ 61 rfl (w.heap.size + 4) 67 i0 (.agg #[.int .i64 0, .int .i64 0, .int .i32 0, .bool false, .int .i64 0, .int .i64 0, .int .i64 0]) 7 48 Tryd.underlying61 hi hz0 hz1 hz2 rfl (by decide) u6 _ _ rfl (hS13.row.alloc _) ⟨X13.heap.size, 0, none⟩ 1 1 (chV p q r b sl sc tn) rfl (by simp [chV]) (cells_new _ _ _) (chV_one _ _ _ _ _ _ _) (by unfold maxLen; omega) (by omega) (by simp; omega) ?_; intro v' w6 hown' hgrow _)
          have hch : chV p q r b sl sc tn = chC W T l done.length := by
            have hq2 := hcs.at'
            rw [List.length_append, List.length_singleton] at hq2
            unfold chC
            rw [hc.at', hq2, HGET.out, HSP.out, HTN.out, hb]
          have hS14 := hS13.more hown' hch hgrow
          have hst14 : stV W T (tk l) (done ++ [(r, n)]).length = (sl, sc + tn) := by rw [List.length_append, List.length_singleton, st_succ, HSP.out, HTN.out]
          refine ⟨⟨_, _, hcs, ?_⟩, ?_⟩
          · rw [hst14, List.length_append, List.length_singleton]
            exact hS14
          · rw [iterPos_of hS14.it, HIP.out]
            omega
    · have hnx := fun ty => Lib.run_next_end_at (P := Tryd.prog) wr (w.heap.size + 3) s p ty hS.it hp
      have hE := (hc.end' (by omega)).1
      have HK := Lib.hid (show done.length = countN l by rw [hE]; rfl)
      clear hE hc
      have p0 := hS.sp.cell 0 rfl
      have p1 := hS.sp.cell 1 rfl
      have r0 := hS.rs.frozen 0
      have r1 := hS.rs.frozen 1
      have rc0 := hS.rs.cell 0 rfl
      have rc1 := hS.rs.cell 1 rfl
      go_wp2_with fail
      go_region_law (fail)
      all_goals
        go_wp2_with fail
        obtain ⟨hR, hgR⟩ := stored2 hS.rs (i := 0) (j := 1) (a := .int .i64 (li : Nat)) (b := .int .i64 (co : Nat)) rfl
        simp only [List.set_cons_zero, List.set_cons_succ] at hR
        have q0 := hR.cell 0 rfl
        have q1 := hR.cell 1 rfl
        have hown := hS.row.kept hgR (by
          rcases e : u6.ownBlock with _ | q
          · exact .inl rfl
          · refine .inr fun e' => ?_
            injection e' with e'
            have := (hS.row.lt q e).1
            omega)
        have hbel := hS.bel.grown hgR hS.bel.size (fun q e => by injection e with e; omega)
        refine bodyPost_ret (v := .tuple #[u6, .agg #[.int .i64 (li : Nat), .int .i64 (co : Nat)]]) (by simp [results, Tryd.results27, go_sem, q0, q1]) rfl ⟨u6, ?_, ?_, hbel.drew⟩
        · rw [← HK.out, HST.out]
        · rw [← HK.out]
          exact owns_base hown (by omega)
end Go.Proofs.YticonolnagcakaaDoor

namespace Go.Proofs.YticonolnagcakaaDoor
open Go.RowKit

/-- no row is too wide, but with one character -/
def fitV (W co : Nat) : Prop := co ≤ W ∨ (W = 1 ∧ co = 2)
theorem takes_zero_fit (W T : Nat) (hW : 1 ≤ W) (c : Nat × Nat) : fitV W (takesV W T c 0) := by
  unfold fitV takesV
  have := width_le (c.1 : Int)
  split
  · omega
  · split
    · omega
    · omega
theorem sp_fit (W T : Nat) (hW : 1 ≤ W) (cs : List (Nat × Nat)) (k : Nat) (h : fitV W (stV W T cs k).2) : fitV W ((spV W T cs k).2 + tkV W T cs k) := by
  unfold spV tkV
  rcases put_cases W T (stV W T cs k) (cs[k]?.getD (0, 0)) with ⟨h1, h2, h3⟩ | ⟨h1, h2, _⟩
  · rw [h1, h2]
    rcases h3 with e | e | e
    · rw [e]; exact h
    · rw [e, Nat.zero_add]; exact takes_zero_fit W T hW _
    · exact .inl e
  · rw [h1, h2]
    show fitV W (0 + _)
    rw [Nat.zero_add]
    exact takes_zero_fit W T hW _
theorem st_fit (W T : Nat) (hW : 1 ≤ W) (cs : List (Nat × Nat)) : ∀ k, fitV W (stV W T cs k).2
  | 0 => .inl (Nat.zero_le _)
  | k + 1 => sp_fit W T hW cs k (st_fit W T hW cs k)

theorem rows_step (W T : Nat) (l : Bs) (k : Nat) :
    (rowsV W T l (k + 1) = ((rowsV W T l k).1, ⟨(rowsV W T l k).2.fr, k + 1, (rowsV W T l k).2.pf, atN l (k + 1), (rowsV W T l k).2.co + tkV W T (tk l) k⟩) ∧ spV W T (tk l) k = stV W T (tk l) k) ∨
    (rowsV W T l (k + 1) = ((rowsV W T l k).1 ++ [(rowsV W T l k).2], ⟨k, k + 1, atN l k, atN l (k + 1), tkV W T (tk l) k⟩) ∧ spV W T (tk l) k = ((stV W T (tk l) k).1 + 1, 0)) := by
  have hl := rows_len W T l k
  have e : rowsV W T l (k + 1) = if (spV W T (tk l) k).1 ≤ (rowsV W T l k).1.length then ((rowsV W T l k).1, ⟨(rowsV W T l k).2.fr, k + 1, (rowsV W T l k).2.pf, atN l (k + 1), (rowsV W T l k).2.co + tkV W T (tk l) k⟩)
    else ((rowsV W T l k).1 ++ [(rowsV W T l k).2], ⟨k, k + 1, atN l k, atN l (k + 1), tkV W T (tk l) k⟩) := rfl
  rw [e]
  have hs : (spV W T (tk l) k = stV W T (tk l) k) ∨ spV W T (tk l) k = ((stV W T (tk l) k).1 + 1, 0) := by
    unfold spV
    rcases put_cases W T (stV W T (tk l) k) ((tk l)[k]?.getD (0, 0)) with ⟨h1, _⟩ | ⟨h1, _⟩
    · exact .inl h1
    · exact .inr h1
  rcases hs with h | h
  · refine .inl ⟨?_, h⟩
    rw [if_pos (by rw [h, hl]; exact Nat.le_refl _)]
  · refine .inr ⟨?_, h⟩
    rw [if_neg (by rw [h, hl]; show ¬ _ + 1 ≤ _; omega)]
/-- what holds of each row -/
def okV (W : Nat) (l : Bs) (r : RowV) : Prop := r.pf = atN l r.fr ∧ r.pt = atN l r.tx ∧ r.fr < r.tx ∧ fitV W r.co
/-- the current row, as it is filled -/
theorem cur_row (W T : Nat) (l : Bs) : ∀ k, (rowsV W T l k).2.tx = k ∧ (rowsV W T l k).2.pt = atN l k ∧ (rowsV W T l k).2.pf = atN l (rowsV W T l k).2.fr ∧ (rowsV W T l k).2.co = (stV W T (tk l) k).2 ∧ (rowsV W T l k).2.fr ≤ k ∧ (0 < k → (rowsV W T l k).2.fr < k)
  | 0 => ⟨rfl, (atN_zero l).symm, (atN_zero l).symm, rfl, Nat.le_refl _, fun h => absurd h (Nat.lt_irrefl _)⟩
  | k + 1 => by
    obtain ⟨h1, h2, h3, h4, h5, h6⟩ := cur_row W T l k
    rcases rows_step W T l k with ⟨e, hs⟩ | ⟨e, hs⟩
    · rw [e]
      refine ⟨rfl, rfl, h3, ?_, by show (rowsV W T l k).2.fr ≤ k + 1; omega, fun _ => by show (rowsV W T l k).2.fr < k + 1; omega⟩
      rw [st_succ, hs]
      show _ + _ = _ + _
      rw [h4]
    · rw [e]
      refine ⟨rfl, rfl, rfl, ?_, Nat.le_succ _, fun _ => Nat.lt_succ_self _⟩
      rw [st_succ, hs]
      show _ = 0 + _
      rw [Nat.zero_add]
theorem ap_l {A : List RowV} {r n : RowV} {i : Nat} (h : i < A.length + 1) : (A ++ [r] ++ [n])[i]? = (A ++ [r])[i]? := List.getElem?_append_left (by rw [List.length_append, List.length_singleton]; exact h)
theorem ap_last (A : List RowV) (r : RowV) : (A ++ [r])[A.length]? = some r := by simp
theorem ap_last2 (A : List RowV) (r n : RowV) : (A ++ [r] ++ [n])[A.length + 1]? = some n := by
  have h := ap_last (A ++ [r]) n
  rwa [List.length_append, List.length_singleton] at h
/-- rows that are full are right, one behind the other -/
theorem full_rows (W T : Nat) (hW : 1 ≤ W) (l : Bs) : ∀ k, (∀ r ∈ (rowsV W T l k).1, okV W l r) ∧
    (∀ i, i < (rowsV W T l k).1.length → ((rowsL W T l k)[i + 1]?.getD rowZ).fr = ((rowsL W T l k)[i]?.getD rowZ).tx) ∧ ((rowsL W T l k)[0]?.getD rowZ).fr = 0 ∧ (0 < (rowsV W T l k).1.length → 0 < k)
  | 0 => ⟨fun r h => (by cases h), fun i h => absurd h (Nat.not_lt_zero _), rfl, fun h => absurd h (Nat.lt_irrefl _)⟩
  | k + 1 => by
    obtain ⟨h1, h2, h3, h4⟩ := full_rows W T hW l k
    obtain ⟨c1, c2, c3, c4, c5, c6⟩ := cur_row W T l k
    have hl := rows_len W T l k
    unfold rowsL at h2 h3 ⊢
    rcases rows_step W T l k with ⟨e, hs⟩ | ⟨e, hs⟩
    · rw [e]
      dsimp only
      refine ⟨h1, fun i hi => ?_, ?_, fun _ => Nat.succ_pos _⟩
      · replace hi : i < (rowsV W T l k).1.length := hi
        have h := h2 i hi
        rw [List.getElem?_append_left hi] at h ⊢
        rcases Nat.lt_or_ge (i + 1) (rowsV W T l k).1.length with hlt | hge
        · rw [List.getElem?_append_left hlt] at h ⊢
          exact h
        · rw [List.getElem?_append_right hge] at h ⊢
          have e0 : i + 1 - (rowsV W T l k).1.length = 0 := by omega
          rw [e0] at h ⊢
          exact h
      · by_cases h0 : 0 < (rowsV W T l k).1.length
        · rw [List.getElem?_append_left h0] at h3 ⊢
          exact h3
        · rw [List.getElem?_append_right (by omega)] at h3 ⊢
          have e0 : 0 - (rowsV W T l k).1.length = 0 := by omega
          rw [e0] at h3 ⊢
          exact h3
    · have hk : 0 < k := by
        rcases Nat.eq_zero_or_pos k with h0 | h0
        · exfalso
          subst h0
          have hp : spV W T (tk l) 0 = (0, 0) := by
            unfold spV
            rcases put_cases W T (stV W T (tk l) 0) ((tk l)[0]?.getD (0, 0)) with ⟨q, _⟩ | ⟨_, _, _, q, _⟩
            · exact q
            · exact absurd q (Nat.lt_irrefl _)
          rw [hp] at hs
          cases hs
        · exact h0
      have hlen : ((rowsV W T l k).1 ++ [(rowsV W T l k).2]).length = (rowsV W T l k).1.length + 1 := by rw [List.length_append, List.length_singleton]
      rw [e]
      dsimp only
      refine ⟨fun r hr => ?_, fun i hi => ?_, ?_, fun _ => Nat.succ_pos _⟩
      · rcases List.mem_append.1 hr with h | h
        · exact h1 r h
        · rw [List.mem_singleton.1 h]
          exact ⟨c3, by rw [c2, c1], by rw [c1]; exact c6 hk, by rw [c4]; exact st_fit W T hW _ k⟩
      · have hi' : i < (rowsV W T l k).1.length + 1 := by rw [← hlen]; exact hi
        rcases Nat.lt_or_ge i (rowsV W T l k).1.length with hlt | hge
        · rw [ap_l (i := i + 1) (by omega), ap_l (i := i) (by omega)]
          exact h2 i hlt
        · have ei : i = (rowsV W T l k).1.length := by omega
          rw [ei, ap_last2, ap_l (by omega), ap_last]
          exact c1.symm
      · rw [ap_l (by omega)]
        exact h3
end Go.Proofs.YticonolnagcakaaDoor

namespace Go.Proofs.YticonolnagcakaaDoor
open Go.RowKit

/-- the spot of a place: of a character, or behind all -/
def atV (W T : Nat) (l : Bs) (c : Nat) : Nat × Nat := if c < countN l then spV W T (tk l) c else stV W T (tk l) c
/-- spots do not fall -/
theorem sp_next (W T : Nat) (cs : List (Nat × Nat)) (k : Nat) : (spV W T cs k).1 < (spV W T cs (k + 1)).1 ∧ (spV W T cs (k + 1)).1 = (spV W T cs k).1 + 1 ∨ (spV W T cs (k + 1)).1 = (spV W T cs k).1 ∧ (spV W T cs k).2 ≤ (spV W T cs (k + 1)).2 := by
  have hs : spV W T cs (k + 1) = stV W T cs (k + 1) ∨ spV W T cs (k + 1) = ((stV W T cs (k + 1)).1 + 1, 0) := by
    show (putV W T (stV W T cs (k + 1)) (cs[k + 1]?.getD (0, 0))).1 = _ ∨ (putV W T (stV W T cs (k + 1)) (cs[k + 1]?.getD (0, 0))).1 = _
    rcases put_cases W T (stV W T cs (k + 1)) (cs[k + 1]?.getD (0, 0)) with ⟨h1, _⟩ | ⟨h1, _⟩
    · exact .inl h1
    · exact .inr h1
  rcases hs with h | h
  · rw [h, st_succ]
    exact .inr ⟨rfl, Nat.le_add_right _ _⟩
  · rw [h, st_succ]
    exact .inl ⟨Nat.lt_succ_self _, rfl⟩
/-- one spot not behind another -/
def leS (a b : Nat × Nat) : Prop := a.1 < b.1 ∨ a.1 = b.1 ∧ a.2 ≤ b.2
theorem leS_refl (a : Nat × Nat) : leS a a := .inr ⟨rfl, Nat.le_refl _⟩
theorem leS_trans {a b c : Nat × Nat} (h : leS a b) (k : leS b c) : leS a c := by
  unfold leS at *
  omega
theorem at_next (W T : Nat) (l : Bs) (c : Nat) (hc : c < countN l) : leS (atV W T l c) (atV W T l (c + 1)) ∧ (atV W T l (c + 1)).1 ≤ (atV W T l c).1 + 1 := by
  unfold atV
  rw [if_pos hc]
  split
  · rcases sp_next W T (tk l) c with h | h
    · exact ⟨.inl h.1, by omega⟩
    · exact ⟨.inr ⟨h.1.symm, h.2⟩, by omega⟩
  · rw [st_succ]
    exact ⟨.inr ⟨rfl, Nat.le_add_right _ _⟩, Nat.le_succ _⟩
theorem at_mono (W T : Nat) (l : Bs) : ∀ (d c : Nat), c + d ≤ countN l → leS (atV W T l c) (atV W T l (c + d))
  | 0, c, _ => leS_refl _
  | d + 1, c, h => leS_trans (at_mono W T l d c (by omega)) (at_next W T l (c + d) (by omega)).1
/-- the row of a place: the row that was being filled behind it -/
theorem at_row (W T : Nat) (l : Bs) (c : Nat) (hc : c < countN l) : (atV W T l c).1 = (rowsV W T l (c + 1)).1.length ∧ (rowsV W T l (c + 1)).2.fr ≤ c ∧ (atV W T l c).2 ≤ (rowsV W T l (c + 1)).2.co ∧ ((rowsV W T l (c + 1)).2.fr = c → (atV W T l c).2 = 0) := by
  have hl := rows_len W T l (c + 1)
  have hcu := cur_row W T l (c + 1)
  unfold atV
  rw [if_pos hc]
  refine ⟨by rw [hl, st_succ], by have := hcu.2.2.2.2.2 (Nat.succ_pos _); omega, by rw [hcu.2.2.2.1, st_succ]; exact Nat.le_add_right _ _, fun he => ?_⟩
  rcases rows_step W T l c with ⟨e, hs⟩ | ⟨e, hs⟩
  · rw [e] at he
    have he' : (rowsV W T l c).2.fr = c := he
    have hk : ¬ 0 < c := fun h => by have := (cur_row W T l c).2.2.2.2.2 h; omega
    have h0 : c = 0 := by omega
    subst h0
    rw [hs]
    rfl
  · rw [hs]
/-- rows once full stay; the row that is being filled only grows -/
theorem rows_keep (W T : Nat) (l : Bs) (k : Nat) : ∀ d,
    (rowsV W T l k).1.length ≤ (rowsV W T l (k + d)).1.length ∧
    ∃ r, (rowsL W T l (k + d))[(rowsV W T l k).1.length]? = some r ∧ r.fr = (rowsV W T l k).2.fr ∧ (rowsV W T l k).2.tx ≤ r.tx ∧ (rowsV W T l k).2.co ≤ r.co
  | 0 => ⟨Nat.le_refl _, (rowsV W T l k).2, ap_last _ _, rfl, Nat.le_refl _, Nat.le_refl _⟩
  | d + 1 => by
    obtain ⟨hle, r, h1, h2, h3, h4⟩ := rows_keep W T l k d
    have hcu := cur_row W T l (k + d)
    unfold rowsL at h1 ⊢
    rw [← Nat.add_assoc]
    rcases rows_step W T l (k + d) with ⟨e, _⟩ | ⟨e, _⟩
    · rw [e]
      dsimp only
      refine ⟨hle, ?_⟩
      rcases Nat.lt_or_ge (rowsV W T l k).1.length (rowsV W T l (k + d)).1.length with hlt | hge
      · rw [List.getElem?_append_left hlt] at h1 ⊢
        exact ⟨r, h1, h2, h3, h4⟩
      · have he : (rowsV W T l k).1.length = (rowsV W T l (k + d)).1.length := by omega
        rw [he, ap_last] at h1 ⊢
        injection h1 with h1
        subst h1
        refine ⟨_, rfl, h2, ?_, Nat.le_trans h4 (Nat.le_add_right _ _)⟩
        show (rowsV W T l k).2.tx ≤ k + d + 1
        have := hcu.1
        omega
    · rw [e]
      dsimp only
      have hlen : ((rowsV W T l (k + d)).1 ++ [(rowsV W T l (k + d)).2]).length = (rowsV W T l (k + d)).1.length + 1 := by rw [List.length_append, List.length_singleton]
      refine ⟨by rw [hlen]; omega, ?_⟩
      rw [ap_l (by omega)]
      exact ⟨r, h1, h2, h3, h4⟩
end Go.Proofs.YticonolnagcakaaDoor

namespace Go.Proofs.YticonolnagcakaaDoor
open Go.RowKit

/-- the greatest number below another that a test takes -/
def findP (f : Nat → Bool) : Nat → Option Nat
  | 0 => none
  | n + 1 => if f n = true then some n else findP f n
theorem findP_some {f : Nat → Bool} : ∀ {n i : Nat}, findP f n = some i → i < n ∧ f i = true ∧ ∀ j, i < j → j < n → f j = false
  | 0, i, h => by cases h
  | n + 1, i, h => by
    unfold findP at h
    by_cases hn : f n = true
    · rw [if_pos hn] at h
      injection h with h
      subst h
      exact ⟨Nat.lt_succ_self _, hn, fun j h1 h2 => by omega⟩
    · rw [if_neg hn] at h
      obtain ⟨h1, h2, h3⟩ := findP_some h
      refine ⟨by omega, h2, fun j k1 k2 => ?_⟩
      rcases Nat.lt_succ_iff_lt_or_eq.1 k2 with k | rfl
      · exact h3 j k1 k
      · cases hf : f j
        · rfl
        · exact absurd hf hn
theorem findP_none {f : Nat → Bool} : ∀ {n : Nat}, findP f n = none → ∀ j, j < n → f j = false
  | 0, _, j, h => absurd h (Nat.not_lt_zero _)
  | n + 1, h, j, hj => by
    unfold findP at h
    by_cases hn : f n = true
    · rw [if_pos hn] at h
      cases h
    · rw [if_neg hn] at h
      rcases Nat.lt_succ_iff_lt_or_eq.1 hj with k | rfl
      · exact findP_none h j k
      · cases hf : f j
        · rfl
        · exact absurd hf hn
theorem findP_is {f : Nat → Bool} : ∀ {n c : Nat}, c < n → f c = true → ∃ i, findP f n = some i ∧ c ≤ i
  | 0, c, h, _ => absurd h (Nat.not_lt_zero _)
  | n + 1, c, h, hc => by
    unfold findP
    by_cases hn : f n = true
    · rw [if_pos hn]
      exact ⟨n, rfl, by omega⟩
    · rw [if_neg hn]
      rcases Nat.lt_succ_iff_lt_or_eq.1 h with k | rfl
      · exact findP_is k hc
      · exact absurd hc hn
/-- does a place stand at a row, at a column or ahead of it? -/
def hereV (W T : Nat) (l : Bs) (r c : Int) (i : Nat) : Bool := decide (((atV W T l i).1 : Int) = r) && decide (((atV W T l i).2 : Int) ≤ c)
/-- the place at a spot -/
def placeV (W T : Nat) (l : Bs) (r c : Int) : Option Nat := findP (hereV W T l r c) (countN l + 1)
theorem place_back (W T : Nat) (l : Bs) (c : Nat) (hc : c ≤ countN l) : ∃ i, placeV W T l (atV W T l c).1 (atV W T l c).2 = some i ∧ c ≤ i ∧ i ≤ countN l ∧ atV W T l i = atV W T l c := by
  have h0 : hereV W T l (atV W T l c).1 (atV W T l c).2 c = true := by
    unfold hereV
    rw [decide_eq_true rfl, decide_eq_true (Int.le_refl _)]
    rfl
  obtain ⟨i, hi, hci⟩ := findP_is (n := countN l + 1) (by omega) h0
  obtain ⟨h1, h2, _⟩ := findP_some hi
  unfold hereV at h2
  rw [Bool.and_eq_true, decide_eq_true_eq, decide_eq_true_eq] at h2
  have hm := at_mono W T l (i - c) c (by omega)
  rw [show c + (i - c) = i by omega] at hm
  refine ⟨i, hi, hci, by omega, ?_⟩
  unfold leS at hm
  exact Prod.ext (by omega) (by omega)
theorem at_le_row (W T : Nat) (l : Bs) (i : Nat) (hi : i ≤ countN l) : (atV W T l i).1 ≤ (rowsV W T l (countN l)).1.length := by
  have hm := at_mono W T l (countN l - i) i (by omega)
  rw [show i + (countN l - i) = countN l by omega] at hm
  have he : atV W T l (countN l) = stV W T (tk l) (countN l) := by unfold atV; rw [if_neg (Nat.lt_irrefl _)]
  rw [he] at hm
  rw [rows_len]
  unfold leS at hm
  omega
theorem place_out (W T : Nat) (l : Bs) (c : Int) : placeV W T l (((rowsV W T l (countN l)).1.length + 1 : Nat) : Int) c = none := by
  cases h : placeV W T l (((rowsV W T l (countN l)).1.length + 1 : Nat) : Int) c with
  | none => rfl
  | some i =>
    obtain ⟨h1, h2, _⟩ := findP_some h
    unfold hereV at h2
    rw [Bool.and_eq_true, decide_eq_true_eq] at h2
    have := at_le_row W T l i (by omega)
    omega
end Go.Proofs.YticonolnagcakaaDoor

namespace Go.Proofs.YticonolnagcakaaDoor
open Go.RowKit

/-- may width and tab be? -/
def goodV (W T : Int) : Bool := decide (1 ≤ W ∧ W ≤ 1024 ∧ 1 ≤ T ∧ T ≤ 16)
theorem vright_any (W T : Int) (w : World) : Calls Tryd.prog 26 #[.int .i64 W, .int .i64 T] w fun e w' => e = .returned (.bool (goodV W T)) ∧ w = w' := by
  unfold goodV
  by_cases h1 : 1 ≤ W
  · by_cases h2 : W ≤ 1024
    · by_cases h3 : 1 ≤ T
      · by_cases h4 : T ≤ 16
        · rw [decide_eq_true (show 1 ≤ W ∧ W ≤ 1024 ∧ 1 ≤ T ∧ T ≤ 16 from ⟨h1, h2, h3, h4⟩)]
          go_enter Tryd.func26, Tryd.ntmps26
          go_wp2_with fail
          go_ret
          exact ⟨rfl, rfl⟩
        · rw [decide_eq_false (show ¬ (1 ≤ W ∧ W ≤ 1024 ∧ 1 ≤ T ∧ T ≤ 16) from fun h => h4 h.2.2.2)]
          go_enter Tryd.func26, Tryd.ntmps26
          go_wp2_with fail
          go_ret
          exact ⟨rfl, rfl⟩
      · rw [decide_eq_false (show ¬ (1 ≤ W ∧ W ≤ 1024 ∧ 1 ≤ T ∧ T ≤ 16) from fun h => h3 h.2.2.1)]
        go_enter Tryd.func26, Tryd.ntmps26
        go_wp2_with fail
        go_ret
        exact ⟨rfl, rfl⟩
    · rw [decide_eq_false (show ¬ (1 ≤ W ∧ W ≤ 1024 ∧ 1 ≤ T ∧ T ≤ 16) from fun h => h2 h.2.1)]
      go_enter Tryd.func26, Tryd.ntmps26
      go_wp2_with fail
      go_ret
      exact ⟨rfl, rfl⟩
  · rw [decide_eq_false (show ¬ (1 ≤ W ∧ W ≤ 1024 ∧ 1 ≤ T ∧ T ≤ 16) from fun h => h1 h.1)]
    go_enter Tryd.func26, Tryd.ntmps26
    go_wp2_with fail
    go_ret
    exact ⟨rfl, rfl⟩
theorem goodV_of {W T : Int} (h : goodV W T = true) : ∃ W' T' : Nat, W = (W' : Int) ∧ T = (T' : Int) ∧ 1 ≤ W' ∧ W' ≤ 1024 ∧ 1 ≤ T' ∧ T' ≤ 16 := by
  have := of_decide_eq_true h
  exact ⟨W.toNat, T.toNat, by omega, by omega, by omega, by omega, by omega, by omega⟩

/-- the row that put hands back, opened -/
theorem vput_at (W T : Nat) (hW : 1 ≤ W) (hW2 : W ≤ 1024) (hT1 : 1 ≤ T) (hT2 : T ≤ 16) (s : ByteArray) (hs : s.size ≤ 1099511627776) (w : World) (hT : Tabs w) :
    Calls Tryd.prog 27 #[.agg #[.int .i64 (W : Nat), .int .i64 (T : Nat)], .string s] w fun e w' => ∃ ao cap, e = .returned (.tuple #[.slice ao (countN (bs s)) cap, .agg #[.int .i64 ((stV W T (tk (bs s)) (countN (bs s))).1 : Nat), .int .i64 ((stV W T (tk (bs s)) (countN (bs s))).2 : Nat)]]) ∧
      (0 < countN (bs s) → ∃ g, ao = some ⟨g, 0, none⟩ ∧ w.heap.size ≤ g ∧ g < w'.heap.size ∧ RowAt w' g 7 (countN (bs s)) (chC W T (bs s))) ∧ Below w.heap.size w w' := by
  refine (vput_any W T hW hW2 hT1 hT2 s hs w hT).mono ?_
  rintro e w' ⟨v, rfl, hown, hb⟩
  obtain ⟨ao, cap, rfl, _, ho⟩ := own_open (chC_len W T (bs s)) hown
  exact ⟨ao, cap, rfl, ho, hb⟩

/-- Where, of any number: the spot and the error. -/
def whereV (W T : Int) (l : Bs) (c : Int) : (Nat × Nat) × Int :=
  if goodV W T = false then ((0, 0), 280) else if c < 0 ∨ (countN l : Int) < c then ((0, 0), 6) else (atV W.toNat T.toNat l c.toNat, 0)

set_option maxRecDepth 100000 in
set_option maxHeartbeats 1000000 in
theorem vwhere_any (W T : Int) (s : ByteArray) (hs : s.size ≤ 1099511627776) (c : Int) (w : World) (hT : Tabs w) :
    Calls Tryd.prog 17 #[.string s, .int .i64 W, .int .i64 T, .int .i64 c] w fun e w' => e = .returned (.tuple #[.agg #[.int .i64 ((whereV W T (bs s) c).1.1 : Nat), .int .i64 ((whereV W T (bs s) c).1.2 : Nat)], .int .i64 (whereV W T (bs s) c).2]) ∧ Below w.heap.size w w' := by
  have HT := Lib.hid hT
  clear hT
  have HG := Lib.hid (fun w => vright_any W T w)
  cases hg : goodV W T
  · rw [hg] at HG
    have hv : whereV W T (bs s) c = ((0, 0), 280) := if_pos hg
    rw [hv]
    clear hv hg
    go_enter Tryd.func17, Tryd.ntmps17
    go_upto_region 1 with fail
    go_name_world X hX
    have hR : Blk X w.heap.size 42 [.int .i64 0, .int .i64 0] := by rw [← hX]; exact Blk.new w _ _
    have hb : Below w.heap.size w X := by rw [← hX]; exact al (Below.refl _ _) _
    clear hX
    have f0 := hR.frozen 0
    have f1 := hR.frozen 1
    have c0 := hR.cell 0 rfl
    have c1 := hR.cell 1 rfl
    go_wp2_with (first | (go_at_call 26; (with_reducible refine (HG.out _).mono ?_); rintro e w2 ⟨rfl, rfl⟩))
    obtain ⟨hF, hgF⟩ := stored2 hR (i := 0) (j := 1) (a := .int .i64 0) (b := .int .i64 0) rfl
    have q0 := hF.cell 0 rfl
    have q1 := hF.cell 1 rfl
    exact bodyPost_ret (v := .tuple #[.agg #[.int .i64 0, .int .i64 0], .int .i64 280]) (by simp [results, Tryd.results17, go_sem, q0, q1]) rfl ⟨rfl, hb.grown hgF hb.size (fun q e => by injection e with e; omega)⟩
  · rw [hg] at HG
    obtain ⟨W', T', rfl, rfl, hW, hW2, hT1, hT2⟩ := goodV_of hg
    have hv : whereV (W' : Nat) (T' : Nat) (bs s) c = if c < 0 ∨ (countN (bs s) : Int) < c then ((0, 0), 6) else (atV W' T' (bs s) c.toNat, 0) := if_neg (by rw [hg]; simp)
    have HP := Lib.hid (fun w hT => vput_at W' T' hW hW2 hT1 hT2 s hs w hT)
    have hle : countN (bs s) ≤ s.size := by rw [size_bs]; exact countN_le _
    obtain ⟨l, hl⟩ : ∃ l, bs s = l := ⟨_, rfl⟩
    rw [hl] at HP hle hv ⊢
    obtain ⟨N, hN⟩ : ∃ N, countN l = N := ⟨_, rfl⟩
    rw [hN] at HP hle hv
    have HN := Lib.hid hN
    obtain ⟨⟨li, co⟩, hst⟩ : ∃ x, stV W' T' (tk l) N = x := ⟨_, rfl⟩
    rw [hst] at HP
    have HST := Lib.hid hst
    clear hl hN hst hg hW hW2 hT1 hT2
    obtain ⟨⟨⟨ra, rb⟩, re⟩, hr⟩ : ∃ x, whereV (W' : Nat) (T' : Nat) l c = x := ⟨_, rfl⟩
    rw [hr] at hv ⊢
    have HV := Lib.hid hv
    clear hv hr
    go_enter Tryd.func17, Tryd.ntmps17
    go_upto_region 1 with fail
    go_name_world X hX
    have hR : Blk X w.heap.size 42 [.int .i64 0, .int .i64 0] := by rw [← hX]; exact Blk.new w _ _
    have hb : Below w.heap.size w X := by rw [← hX]; exact al (Below.refl _ _) _
    clear hX
    go_upto_block 0 with (first
      | (go_at_call 26; (with_reducible refine (HG.out _).mono ?_); rintro e w2 ⟨rfl, rfl⟩)
      | (go_at_call 27; (with_reducible refine (HP.out _ (HT.out.below hb (Nat.le_refl _))).mono ?_); rintro e w2 ⟨ao, cap, rfl, ho, hb2⟩))
    go_name_world Y hY
    have hR2 : Blk Y w.heap.size 42 [.int .i64 0, .int .i64 0] := by rw [← hY]; exact (hR.below hb2).alloc _
    have hL : Blk Y w2.heap.size 42 [.int .i64 (li : Nat), .int .i64 (co : Nat)] := by rw [← hY]; exact Blk.new w2 _ _
    have hB : Below w.heap.size w Y := by rw [← hY]; exact al (nx hb hb2) _
    have hg2 : Below w2.heap.size w2 Y := by rw [← hY]; exact al (Below.refl _ _) _
    have f0 := hR2.frozen 0
    have f1 := hR2.frozen 1
    have c0 := hR2.cell 0 rfl
    have c1 := hR2.cell 1 rfl
    have d0 := hL.cell 0 rfl
    have d1 := hL.cell 1 rfl
    clear hY hb hR
    by_cases h0 : c < 0
    · have ev := HV.out
      rw [if_pos (Or.inl h0)] at ev
      injection ev with e1 e2
      injection e1 with e3 e4
      subst e2 e3 e4
      go_wp2_with fail
      obtain ⟨hF, hgF⟩ := stored2 hR2 (i := 0) (j := 1) (a := .int .i64 0) (b := .int .i64 0) rfl
      have q0 := hF.cell 0 rfl
      have q1 := hF.cell 1 rfl
      exact bodyPost_ret (v := .tuple #[.agg #[.int .i64 0, .int .i64 0], .int .i64 6]) (by simp [results, Tryd.results17, go_sem, q0, q1]) rfl ⟨rfl, hB.grown hgF hB.size (fun q e => by injection e with e; omega)⟩
    by_cases h1 : (N : Int) < c
    · have ev := HV.out
      rw [if_pos (Or.inr h1)] at ev
      injection ev with e1 e2
      injection e1 with e3 e4
      subst e2 e3 e4
      go_wp2_with fail
      obtain ⟨hF, hgF⟩ := stored2 hR2 (i := 0) (j := 1) (a := .int .i64 0) (b := .int .i64 0) rfl
      have q0 := hF.cell 0 rfl
      have q1 := hF.cell 1 rfl
      exact bodyPost_ret (v := .tuple #[.agg #[.int .i64 0, .int .i64 0], .int .i64 6]) (by simp [results, Tryd.results17, go_sem, q0, q1]) rfl ⟨rfl, hB.grown hgF hB.size (fun q e => by injection e with e; omega)⟩
    have ev := HV.out
    rw [if_neg (by omega)] at ev
    obtain ⟨m, rfl⟩ : ∃ m : Nat, c = (m : Int) := ⟨c.toNat, by omega⟩
    rw [Int.toNat_natCast] at ev
    by_cases h2 : m = N
    · subst h2
      have hv : atV W' T' l m = (li, co) := by unfold atV; rw [if_neg (by rw [HN.out]; exact Nat.lt_irrefl _)]; exact HST.out
      rw [hv] at ev
      clear hv
      injection ev with e1 e2
      injection e1 with e3 e4
      subst e2 e3 e4
      go_wp2_with fail
      obtain ⟨hF, hgF⟩ := stored2 hR2 (i := 0) (j := 1) (a := .int .i64 (ra : Nat)) (b := .int .i64 (rb : Nat)) rfl
      have q0 := hF.cell 0 rfl
      have q1 := hF.cell 1 rfl
      exact bodyPost_ret (v := .tuple #[.agg #[.int .i64 (ra : Nat), .int .i64 (rb : Nat)], .int .i64 0]) (by simp [results, Tryd.results17, go_sem, q0, q1]) rfl ⟨rfl, hB.grown hgF hB.size (fun q e => by injection e with e; omega)⟩
    · have hmN : m < N := by omega
      have hv : atV W' T' l m = spV W' T' (tk l) m := by unfold atV; rw [if_pos (by rw [HN.out]; exact hmN)]
      rw [hv] at ev
      obtain ⟨g, rfl, hg1, hg3, hrow⟩ := ho (by omega)
      have k4 := (hrow.below (chC_len _ _ _) hg2) m 4 hmN (by omega)
      have k5 := (hrow.below (chC_len _ _ _) hg2) m 5 hmN (by omega)
      have e4' : (chC W' T' l m)[4]? = some (.int .i64 ((spV W' T' (tk l) m).1 : Nat)) := rfl
      have e5' : (chC W' T' l m)[5]? = some (.int .i64 ((spV W' T' (tk l) m).2 : Nat)) := rfl
      rw [e4'] at k4
      rw [e5'] at k5
      obtain ⟨⟨sl, sc⟩, hsp⟩ : ∃ x, spV W' T' (tk l) m = x := ⟨_, rfl⟩
      rw [hsp] at k4 k5 ev
      simp only at k4 k5
      injection ev with e1 e2
      injection e1 with e3 e4
      subst e2 e3 e4
      have hd : ((m : Int) == (N : Int)) = false := beq_eq_false_iff_ne.2 (by omega)
      have hmi : (m : Int) < (N : Int) := by omega
      clear e4' e5' hsp hv hrow ho h2 h1 h0
      go_wp2_with fail
      obtain ⟨hF, hgF⟩ := stored2 hR2 (i := 0) (j := 1) (a := .int .i64 (ra : Nat)) (b := .int .i64 (rb : Nat)) rfl
      have q0 := hF.cell 0 rfl
      have q1 := hF.cell 1 rfl
      exact bodyPost_ret (v := .tuple #[.agg #[.int .i64 (ra : Nat), .int .i64 (rb : Nat)], .int .i64 0]) (by simp [results, Tryd.results17, go_sem, q0, q1]) rfl ⟨rfl, hB.grown hgF hB.size (fun q e => by injection e with e; omega)⟩
end Go.Proofs.YticonolnagcakaaDoor

namespace Go.Proofs.YticonolnagcakaaDoor
open Go.RowKit
attribute [local go_sem ↓] Go.wp_at_zero Go.wp_at_succ

theorem info_row : (Tryd.prog.info? 32).map (fun i => (i.zero, i.size, i.bytes)) = some (some (.agg #[.int .i64 0, .int .i64 0, .int .i64 0, .int .i64 0, .int .i64 0]), 5, 40) := by kernel_rfl
theorem rowC_len (r : RowV) : (rowC r).length = 5 := rfl
theorem rowC_one (r : RowV) : ∀ u ∈ rowC r, u.oneCell' = true := by
  intro u hu
  simp [rowC] at hu
  rcases hu with rfl | rfl | rfl | rfl | rfl <;> rfl
theorem flat_len (L : List RowV) : (L.flatMap rowC).length = L.length * 5 := by
  induction L with
  | nil => rfl
  | cons a L ih => rw [List.flatMap_cons, List.length_append, ih, rowC_len, List.length_cons]; omega
theorem flat_snoc (L : List RowV) (r : RowV) : (L ++ [r]).flatMap rowC = L.flatMap rowC ++ rowC r := by
  rw [List.flatMap_append]
  simp

/-- Rows, of any numbers. -/
def rowsR (W T : Int) (l : Bs) : List RowV × Int := if goodV W T = false then ([], 280) else (rowsL W.toNat T.toNat l (countN l), 0)

/-- a cell of the last row is written -/
theorem row_set {X Y : World} {base : Nat} {e : TypeId} {g cap m j : Nat} {A : List RowV} {xs : List Value} {u : Value} (hm : A.length = m)
    (h : X.ownsRow base e 5 (.slice (some ⟨g, 0, none⟩) (m + 1) cap) (m + 1) (A.flatMap rowC ++ xs)) (hj : j < 5) (hY : X.setCell ⟨g, m * 5 + j, none⟩ u = Y) :
    Y.ownsRow base e 5 (.slice (some ⟨g, 0, none⟩) (m + 1) cap) (m + 1) (A.flatMap rowC ++ xs.set j u) ∧ X.grownBy Y (some g) := by
  obtain ⟨h1, h2⟩ := h.stored (m * 5 + j) u
  subst hY
  refine ⟨?_, h2⟩
  rw [List.set_append_right _ _ (by rw [flat_len, hm]; omega), flat_len, hm, show m * 5 + j - m * 5 = j by omega] at h1
  exact h1
theorem row_cell {X : World} {base : Nat} {e : TypeId} {g cap m j : Nat} {A : List RowV} {xs : List Value} (hm : A.length = m)
    (h : X.ownsRow base e 5 (.slice (some ⟨g, 0, none⟩) (m + 1) cap) (m + 1) (A.flatMap rowC ++ xs)) (hj : j < 5) : X.cell? ⟨g, m * 5 + j, none⟩ = xs[j]? := by
  rw [h.cellAt (m * 5 + j) (by omega), List.getElem?_append_right (by rw [flat_len, hm]; omega), flat_len, hm, show m * 5 + j - m * 5 = j by omega]
theorem rows_sum (W T : Nat) (hW : W ≤ 1024) (l : Bs) (k : Nat) : ∃ (A : List RowV) (fr pf pt cc m sl sc tn : Nat), rowsV W T l k = (A, ⟨fr, k, pf, pt, cc⟩) ∧ A.length = m ∧ m ≤ k ∧ spV W T (tk l) k = (sl, sc) ∧ tkV W T (tk l) k = tn ∧ cc ≤ 1024 ∧ tn ≤ 1024 ∧
    ((sl = m ∧ cc + tn ≤ 1024 ∧ rowsV W T l (k + 1) = (A, ⟨fr, k + 1, pf, atN l (k + 1), cc + tn⟩)) ∨ (sl = m + 1 ∧ rowsV W T l (k + 1) = (A ++ [⟨fr, k, pf, pt, cc⟩], ⟨k, k + 1, atN l k, atN l (k + 1), tn⟩))) := by
  have hcur := cur_row W T l k
  have hcol := st_col W T (tk l) (k + 1)
  rw [st_succ] at hcol
  have hlen := rows_len W T l k
  have hst := rows_step W T l k
  have hrb := st_row W T (tk l) k
  have hcb := st_col W T (tk l) k
  obtain ⟨⟨A, fr, tx, pf, pt, cc⟩, hA⟩ : ∃ x, rowsV W T l k = x := ⟨_, rfl⟩
  obtain ⟨⟨sl, sc⟩, hsp⟩ : ∃ x, spV W T (tk l) k = x := ⟨_, rfl⟩
  obtain ⟨⟨li, co⟩, hs⟩ : ∃ x, stV W T (tk l) k = x := ⟨_, rfl⟩
  obtain ⟨tn, htn⟩ : ∃ x, tkV W T (tk l) k = x := ⟨_, rfl⟩
  rw [hA] at hcur hlen hst
  rw [hsp] at hcol hst
  rw [htn] at hcol hst
  rw [hs] at hcur hlen hst hrb hcb
  simp only at hcur hlen hst hcol hrb hcb
  obtain ⟨rfl, _, _, rfl, _, _⟩ := hcur
  refine ⟨A, fr, pf, pt, cc, A.length, sl, sc, tn, hA, rfl, by omega, hsp, htn, by omega, by omega, ?_⟩
  rcases hst with ⟨h1, h2⟩ | ⟨h1, h2⟩
  · injection h2 with h2 h3
    exact .inl ⟨by omega, by omega, h1⟩
  · injection h2 with h2 h3
    exact .inr ⟨by omega, h1⟩
theorem RowAt.under {W W' : World} {g c n B : Nat} {f : Nat → List Value} (h : RowAt W g c n f) (hb : Below B W W') (hg : g < B) : RowAt W' g c n f := fun i j hi hj => (hb.cell (p := ⟨g, i * c + j, none⟩) hg).trans (h i j hi hj)
theorem grown_drew {a b : World} {row : Option Nat} (h : a.grownBy b row) : a.grownBy b.drew row := ⟨h.os, h.tape, h.output, h.size, h.block⟩
/-- the two stores of a round, in whichever order -/
theorem row_two {X : World} {base : Nat} {e : TypeId} {g cap m : Nat} {A : List RowV} {xs : List Value} {u v : Value} (hm : A.length = m)
    (h : X.ownsRow base e 5 (.slice (some ⟨g, 0, none⟩) (m + 1) cap) (m + 1) (A.flatMap rowC ++ xs)) (V : World)
    (hV : V = ((X.setCell ⟨g, m * 5 + 1, none⟩ u).setCell ⟨g, m * 5 + 2 + 1, none⟩ v).drew ∨ V = ((X.setCell ⟨g, m * 5 + 2 + 1, none⟩ v).setCell ⟨g, m * 5 + 1, none⟩ u).drew) :
    V.ownsRow base e 5 (.slice (some ⟨g, 0, none⟩) (m + 1) cap) (m + 1) (A.flatMap rowC ++ (xs.set 1 u).set 3 v) ∧ X.grownBy V (some g) := by
  rcases hV with rfl | rfl
  · obtain ⟨h1, g1⟩ := row_set hm h (j := 1) (u := u) (by omega) rfl
    obtain ⟨h2, g2⟩ := row_set hm h1 (j := 3) (u := v) (by omega) rfl
    exact ⟨h2, grown_drew (grown_trans g1 g2)⟩
  · obtain ⟨h1, g1⟩ := row_set hm h (j := 3) (u := v) (by omega) rfl
    obtain ⟨h2, g2⟩ := row_set hm h1 (j := 1) (u := u) (by omega) rfl
    rw [List.set_comm _ _ (by omega)] at h2
    exact ⟨h2, grown_drew (grown_trans g1 g2)⟩
theorem row_new (X : World) (t : TypeId) (r : RowV) : (X.alloc (.cells (rowC r).toArray t)).ownsRow X.heap.size t 5 (.slice (some ⟨X.heap.size, 0, none⟩) 1 1) 1 ([r].flatMap rowC) :=
  ⟨by rw [flat_len]; rfl, .inr ⟨X.heap.size, 1, _, rfl, Nat.le_refl _, heap_alloc_new X _, Nat.le_refl _, (by unfold maxLen; omega), rfl, rfl⟩⟩

set_option maxRecDepth 100000 in
set_option maxHeartbeats 4000000 in
theorem vrows_any (W T : Int) (s : ByteArray) (hs : s.size ≤ 1099511627776) (w : World) (hT : Tabs w) :
    Calls Tryd.prog 9 #[.string s, .int .i64 W, .int .i64 T] w fun e w' => ∃ v, e = .returned (.tuple #[v, .int .i64 (rowsR W T (bs s)).2]) ∧
      w'.ownsRow w.heap.size 32 5 v (rowsR W T (bs s)).1.length ((rowsR W T (bs s)).1.flatMap rowC) ∧ Below w.heap.size w w' := by
  have HT := Lib.hid hT
  clear hT
  obtain ⟨i0, hi, hz0, hz1, hz2⟩ := info_parts info_row
  have HG := Lib.hid (fun w => vright_any W T w)
  cases hg : goodV W T
  · rw [hg] at HG
    have hv : rowsR W T (bs s) = ([], 280) := if_pos hg
    rw [hv]
    clear hv hg
    go_enter Tryd.func9, Tryd.ntmps9
    go_wp2_with fail
    refine wp_scope_straight ?_
    go_wp2_with (first | (go_at_call 26; (with_reducible refine (HG.out _).mono ?_); rintro e w2 ⟨rfl, rfl⟩))
    rw [Exit.noGoto_ret]
    go_ret2
    exact ⟨_, rfl, World.ownsRow_nil _ _ _ _, Below.refl _ _⟩
  · rw [hg] at HG
    obtain ⟨W', T', rfl, rfl, hW, hW2, hT1, hT2⟩ := goodV_of hg
    have hv : rowsR (W' : Nat) (T' : Nat) (bs s) = (rowsL W' T' (bs s) (countN (bs s)), 0) := if_neg (by rw [hg]; simp)
    have HP := Lib.hid (fun w hT => vput_at W' T' hW hW2 hT1 hT2 s hs w hT)
    have hle : countN (bs s) ≤ s.size := by rw [size_bs]; exact countN_le _
    rw [hv]
    obtain ⟨l, hl⟩ : ∃ l, bs s = l := ⟨_, rfl⟩
    rw [hl] at HP hle ⊢
    obtain ⟨N, hN⟩ : ∃ N, countN l = N := ⟨_, rfl⟩
    rw [hN] at HP hle ⊢
    have HN := Lib.hid hN
    clear hl hN hg hT1 hT2 hv
    go_enter Tryd.func9, Tryd.ntmps9
    go_wp2_with fail
    refine wp_scope_straight ?_
    go_upto_region 4 with (first
      | (go_at_call 26; (with_reducible refine (HG.out _).mono ?_); rintro e w2 ⟨rfl, rfl⟩)
      | (go_at_call 27; (with_reducible refine (HP.out _ HT.out).mono ?_); rintro e w2 ⟨ao, cap, rfl, ho, hb2⟩))
    go_name_world Y hY
    have hBY : Below w.heap.size w Y := by rw [← hY]; exact al hb2 _
    have hb2Y : Below w2.heap.size w2 Y := by rw [← hY]; exact al (Below.refl _ _) _
    have HO := Lib.hid ho
    clear hY ho
    go_wp2_with fail
    refine wp_label ?_
    go_upto_block 0 with fail
    go_name_world Z hZ
    have hr0 : Z.ownsRow Y.heap.size 32 5 (.slice (some ⟨Y.heap.size, 0, none⟩) 1 1) 1 ([rowZ].flatMap rowC) := by rw [← hZ]; exact row_new Y _ rowZ
    have hYZ : Below Y.heap.size Y Z := by rw [← hZ]; exact al (Below.refl _ _) _
    have hYs := hb2Y.size
    have hws := hBY.size
    clear hZ
    go_wp2_with fail
    go_loopw [10, 30] (fun v i wr => ∃ k : Nat, i = .int .i64 (k : Nat) ∧ k ≤ N ∧ wr.ownsRow Y.heap.size 32 5 v ((rowsV W' T' l k).1.length + 1) ((rowsL W' T' l k).flatMap rowC) ∧ Below Y.heap.size Y wr) (fun _ i _ => N - (intOf i).toNat)
    case atStart => exact ⟨0, rfl, Nat.zero_le _, hr0, hYZ⟩
    case round =>
      clear hr0 hYZ
      obtain ⟨k, rfl, hk, hown, hb⟩ := hrel
      by_cases hlt : k < N
      · obtain ⟨g, rfl, hg1, hg2, hrow⟩ := HO.out (by omega)
        have hrw := (hrow.under hb2Y hg2).under hb (by omega)
        have d0 := hrw k 0 hlt (by omega)
        have d1 := hrw k 1 hlt (by omega)
        have d2 := hrw k 2 hlt (by omega)
        have d3 := hrw k 3 hlt (by omega)
        have d4 := hrw k 4 hlt (by omega)
        have d5 := hrw k 5 hlt (by omega)
        have d6 := hrw k 6 hlt (by omega)
        obtain ⟨A, fr, pf, pt, cc, m, sl, sc, tn, hA, hm, hmk, hsp, htn, hcc, htb, hnext⟩ := rows_sum W' T' hW2 l k
        unfold rowsL at hown
        rw [flat_snoc, hA] at hown
        simp only at hown
        rw [hm] at hown
        unfold chC at d0 d1 d2 d3 d4 d5 d6
        obtain ⟨b, hbb⟩ : ∃ x, rightR (((tk l)[k]?.getD (0, 0)).1 : Int) ((tk l)[k]?.getD (0, 0)).2 = x := ⟨_, rfl⟩
        rw [hbb] at d0 d1 d2 d3 d4 d5 d6
        obtain ⟨r, hr⟩ : ∃ x, ((tk l)[k]?.getD (0, 0)).1 = x := ⟨_, rfl⟩
        obtain ⟨a, ha⟩ : ∃ x, atN l k = x := ⟨_, rfl⟩
        obtain ⟨a2, ha2⟩ : ∃ x, atN l (k + 1) = x := ⟨_, rfl⟩
        rw [hr, ha, ha2, hsp, htn] at d0 d1 d2 d3 d4 d5 d6
        rw [ha, ha2] at hnext
        replace d0 : wr.cell? ⟨g, k * 7, none⟩ = some (.int .i64 (a : Nat)) := d0
        replace d1 : wr.cell? ⟨g, k * 7 + 1, none⟩ = some (.int .i64 (a2 : Nat)) := d1
        replace d2 : wr.cell? ⟨g, k * 7 + 2, none⟩ = some (.int .i32 (r : Nat)) := d2
        replace d3 : wr.cell? ⟨g, k * 7 + 3, none⟩ = some (.bool b) := d3
        replace d4 : wr.cell? ⟨g, k * 7 + 4, none⟩ = some (.int .i64 (sl : Nat)) := d4
        replace d5 : wr.cell? ⟨g, k * 7 + 5, none⟩ = some (.int .i64 (sc : Nat)) := d5
        replace d6 : wr.cell? ⟨g, k * 7 + 6, none⟩ = some (.int .i64 (tn : Nat)) := d6
        have HNX := Lib.hid hnext
        have HM := Lib.hid hm
        obtain ⟨G, C, hv, hGb, hGl⟩ : ∃ G C, u10 = .slice (some ⟨G, 0, none⟩) (m + 1) C ∧ Y.heap.size ≤ G ∧ G < wr.heap.size := by
          rcases hown.2 with ⟨_, h0⟩ | ⟨G, C, cur, h, hb1, hh, _⟩
          · omega
          · exact ⟨G, C, h, hb1, (Array.getElem?_eq_some_iff.1 hh).1⟩
        subst hv
        clear hA hm hsp htn hnext hbb hr ha ha2 hrw hrow
        go_upto_region 8 with fail
        go_name_world X hX
        have hC : Blk X wr.heap.size 67 [.int .i64 (a : Nat), .int .i64 (a2 : Nat), .int .i32 (r : Nat), .bool b, .int .i64 (sl : Nat), .int .i64 (sc : Nat), .int .i64 (tn : Nat)] := by rw [← hX]; exact Blk.new wr _ _
        have hbX : Below Y.heap.size Y X := by rw [← hX]; exact al hb _
        have hO : X.ownsRow Y.heap.size 32 5 (.slice (some ⟨G, 0, none⟩) (m + 1) C) (m + 1) (A.flatMap rowC ++ rowC ⟨fr, k, pf, pt, cc⟩) := by rw [← hX]; exact hown.alloc _
        obtain ⟨Cb, hCb⟩ : ∃ Cb, wr.heap.size = Cb := ⟨_, rfl⟩
        rw [hCb] at hC hGl ⊢
        clear hX hown hCb hb d0 d1 d2 d3 d4 d5 d6
        have c0 := hC.cell 0 rfl
        have c1 := hC.cell 1 rfl
        have c4 := hC.cell 4 rfl
        have c6 := hC.cell 6 rfl
        rcases HNX.out with ⟨rfl, hcn, hn⟩ | ⟨rfl, hn⟩
        · have HN1 := Lib.hid hn
          clear HNX hn
          have g1 := row_cell HM.out hO (j := 1) (by omega)
          have g3 := row_cell HM.out hO (j := 3) (by omega)
          have g4 := row_cell HM.out hO (j := 4) (by omega)
          replace g1 : X.cell? ⟨G, sl * 5 + 1, none⟩ = some (.int .i64 (k : Nat)) := g1
          replace g3 : X.cell? ⟨G, sl * 5 + 3, none⟩ = some (.int .i64 (pt : Nat)) := g3
          replace g4 : X.cell? ⟨G, sl * 5 + 4, none⟩ = some (.int .i64 (cc : Nat)) := g4
          have f1 := hO.frozenAt (sl * 5 + 1)
          have f3 := hO.frozenAt (sl * 5 + 3)
          have hdd : (sl : Int) < (sl : Int) + 1 := by omega
          have w1 : IntKind.i64.wrap ((k : Int) + 1) = (k : Int) + 1 := by rw [IntKind.wrap_i64]; omega
          have hGC : some Cb ≠ (some G : Option Nat) := by simp; omega
          have mk := row_two (u := .int .i64 ((k : Int) + 1)) (v := .int .i64 (a2 : Nat)) HM.out hO
          have MK := Lib.hid mk
          clear mk
          go_upto_region 10 with fail
          go_cut [46] from 46 to 57 (fun _ wx => wx.ownsRow Y.heap.size 32 5 (.slice (some ⟨G, 0, none⟩) (sl + 1) C) (sl + 1) (A.flatMap rowC ++ rowC ⟨fr, k + 1, pf, a2, cc⟩) ∧ X.grownBy wx (some G))
          case first =>
            go_region_with (fail)
            all_goals (go_wp2_with fail; go_meet; first | exact MK.out _ (.inl rfl) | exact MK.out _ (.inr rfl))
          case rest =>
            obtain ⟨hO2, hgr⟩ := hcut
            have hC2 := hC.kept hgr hGC
            have hb2' := hbX.grown hgr hbX.size (fun q e => by injection e with e; omega)
            clear MK hO hC hgr hbX g1 g3 g4 f1 f3 c0 c1 c4 c6
            have c6 := hC2.cell 6 rfl
            have g4 := row_cell HM.out hO2 (j := 4) (by omega)
            replace g4 : wc.cell? ⟨G, sl * 5 + 4, none⟩ = some (.int .i64 (cc : Nat)) := g4
            have f4 := hO2.frozenAt (sl * 5 + 4)
            by_cases ht0 : tn = 0
            · subst ht0
              go_wp2_with fail
              go_roundw
              case rel =>
                refine ⟨k + 1, by go_num, hlt, ?_, hb2'⟩
                unfold rowsL
                rw [HN1.out, flat_snoc]
                show wc.ownsRow _ _ _ _ (A.length + 1) _
                rw [HM.out]
                exact hO2
              case measure => simp [intOf]; omega
            · have w2 : IntKind.i64.wrap ((cc : Int) + (tn : Int)) = (cc : Int) + (tn : Int) := by rw [IntKind.wrap_i64]; omega
              have htd : ((tn : Int) == 0) = false := beq_eq_false_iff_ne.2 (by omega)
              go_wp2_with fail
              go_region_with (fail)
              all_goals
                go_wp2_with fail
                obtain ⟨h1, g1⟩ := row_set HM.out hO2 (j := 4) (u := .int .i64 ((cc : Int) + (tn : Int))) (by omega) rfl
                refine ⟨⟨k + 1, by go_num, hlt, ?_, (hb2'.grown g1 hb2'.size (fun q e => by injection e with e; omega)).drew⟩, by simp [intOf]; omega⟩
                unfold rowsL
                rw [HN1.out, flat_snoc]
                show World.ownsRow _ _ _ _ _ (A.length + 1) _
                rw [HM.out]
                exact h1
        · have HN2 := Lib.hid hn
          clear HNX hn
          have hd : decide (m + 1 < m + 1) = false := decide_eq_false (by omega)
          go_wp2_with (at_builtin; refine wpList_append_own _ rfl _ _ 24 rfl Y.heap.size 32 i0 (.agg #[.int .i64 0, .int .i64 0, .int .i64 0, .int .i64 0, .int .i64 0]) 5 40 Tryd.underlying24 hi hz0 hz1 hz2 rfl (by decide) (.slice (some ⟨G, 0, none⟩) (m + 1) C) _ _ rfl (hO.alloc _) ⟨X.heap.size, 0, none⟩ 1 1 (rowC ⟨k, k + 1, a, a2, tn⟩) rfl (by simp [rowC]) (cells_new _ _ _) (rowC_one _) (by unfold maxLen; omega) (by omega) (by have := hbX.size; simp; omega) ?_; intro v' w6 hown' hgrow _)
          have hb6 : Below Y.heap.size Y w6 := (al hbX _).grown hgrow (by have := hbX.size; simp; omega) (fun q e => (hO.lt q e).1)
          refine ⟨⟨k + 1, by go_num, hlt, ?_, hb6⟩, by simp [intOf]; omega⟩
          unfold rowsL
          rw [HN2.out, flat_snoc, flat_snoc]
          show World.ownsRow _ _ _ _ _ ((A ++ [_]).length + 1) _
          rw [List.length_append, HM.out, List.length_singleton]
          exact hown'
      · obtain rfl : k = N := by omega
        have hd : decide (k < k) = false := decide_eq_false (by omega)
        have hlr : (rowsL W' T' l k).length = (rowsV W' T' l k).1.length + 1 := by unfold rowsL; rw [List.length_append, List.length_singleton]
        rw [← hlr] at hown
        go_wp2_with fail
        rw [Exit.noGoto_ret]
        go_ret2
        exact ⟨_, rfl, owns_base hown hws, hBY.trans (hb.mono hws)⟩
end Go.Proofs.YticonolnagcakaaDoor

namespace Go.Proofs.YticonolnagcakaaDoor
open Go.RowKit

/-- a rune that is not shown -/
def hideV (r : Int) : Bool := decide (r < 32) || (decide (127 ≤ r) && decide (r ≤ 159)) || endsB r
/-- the document's word for it -/
def bareV (r : Int) : Bool := decide (r < 32) || (decide (127 ≤ r) && decide (r < 160)) || decide (r = 8232) || decide (r = 8233)
theorem bare_hide (r : Int) : bareV r = hideV r := by
  unfold bareV hideV endsB inR
  simp only [List.any_cons, List.any_nil, Bool.or_false]
  rw [Bool.eq_iff_iff]
  simp only [Bool.or_eq_true, Bool.and_eq_true, decide_eq_true_eq]
  omega
/-- what is shown of the character number k -/
def shownC (W T : Nat) (l : Bs) (k : Nat) : Bs :=
  let c := (tk l)[k]?.getD (0, 0)
  if rightR (c.1 : Int) c.2 = false then [239, 191, 189] else if c.1 = 9 then List.replicate (tkV W T (tk l) k) 32 else if hideV (c.1 : Int) = true then [] else (l.drop (atN l k)).take c.2
/-- the texts behind so many characters: of the row that is being filled, and of those ahead of it -/
def textsV (W T : Nat) (l : Bs) : Nat → List Bs × Bs
  | 0 => ([], [])
  | k + 1 =>
    let p := textsV W T l k
    if (spV W T (tk l) k).1 ≤ p.1.length then (p.1, p.2 ++ shownC W T l k) else (p.1 ++ [p.2], shownC W T l k)
theorem texts_len (W T : Nat) (l : Bs) : ∀ k, (textsV W T l k).1.length = (stV W T (tk l) k).1
  | 0 => rfl
  | k + 1 => by
    have ih := texts_len W T l k
    have h := sp_row W T (tk l) k
    unfold textsV
    dsimp only
    split
    · show (textsV W T l k).1.length = _
      omega
    · show ((textsV W T l k).1 ++ [_]).length = _
      rw [List.length_append, List.length_singleton]
      omega
end Go.Proofs.YticonolnagcakaaDoor

namespace Go.Proofs.YticonolnagcakaaDoor
open Go.RowKit

theorem grownB_trans {a b c : World} {row : Option Nat} (h : a.grownBy b row) (k : b.grownBy c row) : a.grownBy c row :=
  ⟨k.os.trans h.os, k.tape.trans h.tape, k.output.trans h.output, Nat.le_trans h.size k.size, fun i hi hr => (k.block i (Nat.lt_of_lt_of_le hi h.size) hr).trans (h.block i hi hr)⟩
/-- all below B but the block G is as it was -/
structure Fr (B G : Nat) (w w' : World) : Prop where
  os : w'.os = w.os
  tape : w'.tape = w.tape
  output : w'.output = w.output
  size : w.heap.size ≤ w'.heap.size
  block : ∀ k, k < B → k ≠ G → w'.heap[k]? = w.heap[k]?
theorem Fr.trans {B G : Nat} {a b c : World} (h : Fr B G a b) (k : Fr B G b c) : Fr B G a c :=
  ⟨k.os.trans h.os, k.tape.trans h.tape, k.output.trans h.output, Nat.le_trans h.size k.size, fun i hi hn => (k.block i hi hn).trans (h.block i hi hn)⟩
theorem Fr.below {B B0 G : Nat} {w w' : World} (h : Fr B G w w') (h1 : B0 ≤ B) (h2 : B0 ≤ G) : Below B0 w w' :=
  ⟨h.os, h.tape, h.output, h.size, fun k hk => h.block k (by omega) (by omega)⟩
theorem Fr.of_set {B G : Nat} {w w' : World} (h : w.grownBy w' (some G)) (hB : B ≤ w.heap.size) : Fr B G w w' :=
  ⟨h.os, h.tape, h.output, h.size, fun k hk hn => h.block k (by omega) (fun e => hn (Option.some.inj e))⟩
theorem Fr.of_grown {B G : Nat} {w w' : World} {row : Option Nat} (h : w.grownBy w' row) (hB : B ≤ w.heap.size) (hr : ∀ q, row = some q → B ≤ q) : Fr B G w w' :=
  ⟨h.os, h.tape, h.output, h.size, fun k hk _ => h.block k (by omega) (fun e => by have := hr k e.symm; omega)⟩
theorem Fr.of_below {B G : Nat} {w w' : World} (h : Below w.heap.size w w') (hB : B ≤ w.heap.size) : Fr B G w w' :=
  ⟨h.os, h.tape, h.output, h.size, fun k hk _ => h.block k (by omega)⟩

/-- a builder's place in a row of them -/
theorem lies_bld (n i : Nat) (h : i < n) : liesAt Tryd.prog Tryd.prog.depth 81 n (2 * i) 81 1 = true := by
  have hc : Tryd.prog.cellsOf 81 = 2 := by kernel_rfl
  have hd : Tryd.prog.depth = (2 * (Tryd.prog.types.size + Made.depth) + 1) + 1 := rfl
  rw [hd]
  simp only [liesAt, Bool.or_eq_true]
  left
  rw [hd]
  have e : 2 * i / 2 = i := by omega
  simp [rowAt, hc, sameLayout, e]
  left
  omega

theorem bld_size : (Tryd.prog.info? 81).map (·.size) = some 2 := by kernel_rfl

/-- its own address -/
abbrev ptB (G o : Nat) : Value := .pointer (some ⟨G, o, none⟩)
set_option maxHeartbeats 1000000 in
theorem bcheck_any (G i n : Nat) (cs : List Value) (p : Value) (w : World) (hG : Blk w G 81 cs) (hn : cs.length = 2 * n) (hi : i < n) (ho : cs[2 * i]? = some p) (hp : p = .pointer none ∨ p = ptB G (2 * i)) :
    Calls Tryd.prog 44 #[ptB G (2 * i)] w fun e w' => e = .returned (.tuple #[]) ∧ Blk w' G 81 (cs.set (2 * i) (ptB G (2 * i))) ∧ w.grownBy w' (some G) ∧ w'.heap.size = w.heap.size := by
  obtain ⟨j, hj, hjs⟩ := Option.map_eq_some_iff.1 bld_size
  have hc : Tryd.prog.cellsOf 81 = 2 := by kernel_rfl
  have hl := lies_bld n i hi
  have c0 := hG.cell (2 * i) ho
  have f0 := hG.frozen (2 * i)
  have hsh : w.shape? G = some (81, 2 * n) := by
    simp [World.shape?, show w.heap[G]? = _ from hG, hn]
  rcases hp with rfl | rfl
  · have hG2 := hG.set (2 * i) (ptB G (2 * i))
    have hgr := grown_set w G (2 * i) (ptB G (2 * i))
    have hr1 := fun ts => Lib.run_to_unsafe (P := Tryd.prog) w (src := 78) (dst := 119) ⟨G, 2 * i, none⟩ Tryd.underlying78 Tryd.underlying119 hj (by rw [hjs]; decide) hsh ts
    have hr2 := Lib.run_from_unsafe (P := Tryd.prog) w (src := 119) (dst := 78) ⟨G, 2 * i, none⟩ Tryd.underlying119 Tryd.underlying78 hj hsh (by rw [hc, show 2 * n / 2 = n by omega]; exact hl)
    have hr1 := hr1 (show 2 * i < 2 * n by omega)
    clear hj hjs hc hl hsh hn ho
    have hne : (callFunc 56 #[.pointer (some ⟨G, 2 * i, none⟩)]).run Tryd.prog w = .ok (.value (.pointer (some ⟨G, 2 * i, none⟩))) w := by
      rw [run_callFunc_extern Tryd.func56 (by kernel_rfl) (by kernel_rfl) (by kernel_rfl) (e := Extern.AbiNoEscape.same) (by kernel_rfl), Lib.run_noEscape]
      rfl
    go_enter Tryd.func44, Tryd.ntmps44
    go_wp2
    go_end0
    exact ⟨rfl, hG2, hgr, size_setCell _ _ _⟩
  · have hcs : cs.set (2 * i) (ptB G (2 * i)) = cs := by
      obtain ⟨hlt, he⟩ := List.getElem?_eq_some_iff.1 ho
      rw [← he]
      exact List.set_getElem_self hlt
    rw [hcs]
    have hq := Lib.run_neq_ptr_same (P := Tryd.prog) w (tp := 78) ⟨G, 2 * i, none⟩ Tryd.underlying78 hj
    have hgr : w.grownBy w (some G) := ⟨rfl, rfl, rfl, Nat.le_refl _, fun _ _ _ => rfl⟩
    clear hj hjs hc hl hsh hn ho hcs
    go_enter Tryd.func44, Tryd.ntmps44
    go_wp2
    go_end0
    exact ⟨rfl, hG, hgr, rfl⟩

theorem info_u8v : (Tryd.prog.info? 5).map (fun i => (i.zero, i.size, i.bytes)) = some (some (.int .u8 0), 1, 1) := by kernel_rfl
theorem own_form {w : World} {base : Nat} {e : TypeId} {size : Nat} {v : Value} {n : Nat} {xs : List Value} (h : w.ownsRow base e size v n xs) : ∃ ao cap, v = .slice ao n cap := by
  rcases h.2 with ⟨rfl, rfl⟩ | ⟨g, cap, cur, rfl, _⟩
  · exact ⟨_, _, rfl⟩
  · exact ⟨_, _, rfl⟩
set_option maxRecDepth 100000 in
set_option maxHeartbeats 2000000 in
theorem bwrite_any (G i n : Nat) (cs : List Value) (p v : Value) (B m : Nat) (xs : List Value) (s : ByteArray) (w : World) (hG : Blk w G 81 cs) (hn : cs.length = 2 * n) (hi : i < n) (ho : cs[2 * i]? = some p) (hp : p = .pointer none ∨ p = ptB G (2 * i))
    (hv : cs[2 * i + 1]? = some v) (hown : w.ownsRow B 5 1 v m xs) (hB : B ≤ w.heap.size) (hGB : G < B) (hlen : m + s.size ≤ 1099511627776) :
    Calls Tryd.prog 31 #[ptB G (2 * i), .string s] w fun e w' => e = .returned (.tuple #[.int .i64 s.size, .nilIface]) ∧ ∃ v', Blk w' G 81 ((cs.set (2 * i) (ptB G (2 * i))).set (2 * i + 1) v') ∧
      w'.ownsRow B 5 1 v' (m + s.size) (xs ++ Lib.strCells s) ∧ (v' = .slice none 0 0 ↔ v = .slice none 0 0 ∧ s.size = 0) ∧ Fr B G w w' := by
  obtain ⟨i0, hi0, hz0, hz1, hz2⟩ := info_parts info_u8v
  have HC := Lib.hid (bcheck_any G i n cs p w hG hn hi ho hp)
  have hv2 : (cs.set (2 * i) (ptB G (2 * i)))[2 * i + 1]? = some v := by rw [List.getElem?_set_ne (by omega)]; exact hv
  clear ho hp hG
  go_enter Tryd.func31, Tryd.ntmps31
  go_upto_region 2 with (first | (go_at_call 44; (with_reducible refine HC.out.mono ?_); rintro e w1 ⟨rfl, hG1, hg1, hs1⟩))
  have hown1 := hown.kept hg1 (by
    rcases e : v.ownBlock with _ | q
    · exact .inl rfl
    · refine .inr fun e' => ?_
      injection e' with e'
      have := (hown.lt q e).1
      omega)
  have c1 := hG1.cell (2 * i + 1) hv2
  have hfr1 : Fr B G w w1 := Fr.of_set hg1 hB
  go_wp2_with (at_builtin; refine Lib.wpList_append_own_string _ rfl _ _ 79 9 rfl B 5 i0 Tryd.underlying79 Tryd.underlying9 hi0 hz0 hz1 hz2 v _ _ rfl hown1 s rfl (by unfold maxLen; omega) (by omega) (by omega) ?_; intro v' w2 hown2 hgrow hnil; obtain ⟨ao', cap', rfl⟩ := own_form hown2; have hne2 : some G ≠ v.ownBlock := (fun e => by have := (hown.lt _ e.symm).1; omega); have hG2 := hG1.kept hgrow hne2; have f1 := hG2.frozen (2 * i + 1); have c2 := hG2.cell (2 * i + 1) hv2)
  obtain ⟨hG3, hg3⟩ : Blk (w2.setCell ⟨G, 2 * i + 1, none⟩ (.slice ao' (m + s.size) cap')) G 81 ((cs.set (2 * i) (ptB G (2 * i))).set (2 * i + 1) (.slice ao' (m + s.size) cap')) ∧ w2.grownBy (w2.setCell ⟨G, 2 * i + 1, none⟩ (.slice ao' (m + s.size) cap')) (some G) := ⟨hG2.set _ _, grown_set _ _ _ _⟩
  have hs2 := hgrow.size
  have hfr2 : Fr B G w1 w2 := Fr.of_grown hgrow (by omega) (fun q e => (hown.lt q e).1)
  have hfr3 : Fr B G w2 _ := Fr.of_set hg3 (by omega)
  have hown3 := hown2.kept hg3 (by
    rcases e : (Value.slice ao' (m + s.size) cap').ownBlock with _ | q
    · exact .inl rfl
    · refine .inr fun e' => ?_
      injection e' with e'
      have := (hown2.lt q e).1
      omega)
  go_ret2
  exact ⟨rfl, _, hG3, hown3, hnil, (hfr1.trans hfr2).trans hfr3⟩

set_option maxRecDepth 100000 in
set_option maxHeartbeats 2000000 in
theorem bwriterune_any (G i n : Nat) (cs : List Value) (p v : Value) (B m : Nat) (xs : List Value) (r : Int) (hr0 : -2147483648 ≤ r) (hr1 : r ≤ 2147483647) (w : World) (hG : Blk w G 81 cs) (hn : cs.length = 2 * n) (hi : i < n) (ho : cs[2 * i]? = some p) (hp : p = .pointer none ∨ p = ptB G (2 * i))
    (hv : cs[2 * i + 1]? = some v) (hown : w.ownsRow B 5 1 v m xs) (hB : B ≤ w.heap.size) (hGB : G < B) (hlen : m ≤ 1099511627776) :
    Calls Tryd.prog 30 #[ptB G (2 * i), .int .i32 r] w fun e w' => ∃ x, e = .returned x ∧ ∃ v', Blk w' G 81 ((cs.set (2 * i) (ptB G (2 * i))).set (2 * i + 1) v') ∧
      w'.ownsRow B 5 1 v' (m + (Lib.runeCells r).length) (xs ++ Lib.runeCells r) ∧ Fr B G w w' := by
  have HC := Lib.hid (bcheck_any G i n cs p w hG hn hi ho hp)
  have HAR := Lib.hid (fun w ho hB => Tryd.utf8_AppendRune_plain B v m xs r hr0 hr1 w ho (by omega) hB)
  have hv2 : (cs.set (2 * i) (ptB G (2 * i)))[2 * i + 1]? = some v := by rw [List.getElem?_set_ne (by omega)]; exact hv
  have hk4 := Lib.runeCells_le r
  obtain ⟨ao, cap, rfl⟩ := own_form hown
  clear ho hp hG
  go_enter Tryd.func30, Tryd.ntmps30
  go_upto_region 2 with (first | (go_at_call 44; (with_reducible refine HC.out.mono ?_); rintro e w1 ⟨rfl, hG1, hg1, hs1⟩))
  have hown1 := hown.kept hg1 (by
    rcases e : (Value.slice ao m cap).ownBlock with _ | q
    · exact .inl rfl
    · refine .inr fun e' => ?_
      injection e' with e'
      have := (hown.lt q e).1
      omega)
  have c1 := hG1.cell (2 * i + 1) hv2
  have hfr1 : Fr B G w w1 := Fr.of_set hg1 hB
  go_upto_region 4 with (first | (go_at_call 45; (with_reducible refine (HAR.out _ hown1 (by omega)).mono ?_); rintro e w2 ⟨v', rfl, hown2, o, hgrow⟩; obtain ⟨ao', cap', rfl⟩ := own_form hown2; have hne2 : some G ≠ (Value.slice ao m cap).ownBlock := (fun e => by have := (hown.lt _ e.symm).1; omega); have hG2 := (hG1.alloc o).kept hgrow hne2; have f1 := hG2.frozen (2 * i + 1); have c2 := hG2.cell (2 * i + 1) hv2))
  go_name_world X hX
  obtain ⟨hG3, hg3⟩ : Blk X G 81 ((cs.set (2 * i) (ptB G (2 * i))).set (2 * i + 1) (.slice ao' (m + (Lib.runeCells r).length) cap')) ∧ w2.grownBy X (some G) := by
    rw [← hX]
    exact ⟨hG2.set _ _, grown_set _ _ _ _⟩
  have hs2 := hgrow.size
  rw [World.size_alloc] at hs2
  have hfr0 : Fr B G w1 (w1.alloc o) := Fr.of_below (al (Below.refl _ _) o) (by omega)
  have hfr2 : Fr B G (w1.alloc o) w2 := Fr.of_grown hgrow (by rw [World.size_alloc]; omega) (fun q e => (hown.lt q e).1)
  have hfr3 : Fr B G w2 _ := Fr.of_set hg3 (by omega)
  have hown3 := hown2.kept hg3 (by
    rcases e : (Value.slice ao' (m + (Lib.runeCells r).length) cap').ownBlock with _ | q
    · exact .inl rfl
    · refine .inr fun e' => ?_
      injection e' with e'
      have := (hown2.lt q e).1
      omega)
  have c3 := hG3.cell (2 * i + 1) (by rw [List.getElem?_set_self (by rw [List.length_set]; omega)])
  clear hX hG2 f1 c2 hown2 hgrow hg3
  go_wp2_with fail
  go_ret2
  exact ⟨_, rfl, _, hG3, hown3, ((hfr1.trans hfr0).trans hfr2).trans hfr3⟩

/-- bytes that a builder holds, read alone -/
def ReadsB (w : World) (B : Nat) (v : Value) (l : List UInt8) : Prop :=
  (v = .slice none 0 0 ∧ l = []) ∨ ∃ q cap cur f, v = .slice (some ⟨q, 0, none⟩) l.length cap ∧ l ≠ [] ∧ B ≤ q ∧ w.heap[q]? = some (.cells cur 5 f) ∧ l.length ≤ cap ∧ cap ≤ maxLen ∧ cap ≤ cur.size ∧ cur.toList.take l.length = Lib.byteCells l
theorem ReadsB.of_own {w : World} {B : Nat} {v : Value} {l : List UInt8} (h : w.ownsRow B 5 1 v l.length (Lib.byteCells l)) (h0 : l = [] → v = .slice none 0 0) : ReadsB w B v l := by
  rcases h.2 with ⟨rfl, hl⟩ | ⟨g, cap, cur, rfl, hg, hh, h1, h2, h3, h4⟩
  · exact .inl ⟨rfl, List.length_eq_zero_iff.1 hl⟩
  · by_cases e : l = []
    · have := h0 e
      cases this
    · exact .inr ⟨g, cap, cur, _, rfl, e, hg, hh, h1, h2, by omega, by rw [Nat.mul_one] at h4; exact h4⟩
/-- the blocks' cells stand as they stood (some may have been frozen) -/
structure Fz (B : Nat) (w w' : World) : Prop where
  os : w'.os = w.os
  tape : w'.tape = w.tape
  output : w'.output = w.output
  size : w.heap.size ≤ w'.heap.size
  block : ∀ k, k < B → w'.heap[k]? = w.heap[k]?
  bytes : ∀ (k : Nat) (cur : Array Value) (f : Nat × Nat), w.heap[k]? = some (Obj.cells cur 5 f) → ∃ f', w'.heap[k]? = some (Obj.cells cur 5 f')
  other : ∀ (k : Nat) (cur : Array Value) (e : TypeId) (f : Nat × Nat), e ≠ 5 → w.heap[k]? = some (Obj.cells cur e f) → w'.heap[k]? = some (Obj.cells cur e f)
theorem Fz.trans {B : Nat} {a b c : World} (h : Fz B a b) (k : Fz B b c) : Fz B a c :=
  ⟨k.os.trans h.os, k.tape.trans h.tape, k.output.trans h.output, Nat.le_trans h.size k.size, fun i hi => (k.block i hi).trans (h.block i hi),
    fun i cur f hi => by obtain ⟨f1, h1⟩ := h.bytes i cur f hi; exact k.bytes i cur f1 h1, fun i cur e f he hi => k.other i cur e f he (h.other i cur e f he hi)⟩
theorem Fz.below {B : Nat} {w w' : World} (h : Fz B w w') : Below B w w' := ⟨h.os, h.tape, h.output, h.size, h.block⟩
theorem Fz.of_below {B : Nat} {w w' : World} (h : Below w.heap.size w w') (hB : B ≤ w.heap.size) : Fz B w w' :=
  ⟨h.os, h.tape, h.output, h.size, fun k hk => h.block k (by omega), fun k cur f hk => ⟨f, (h.block k (Array.getElem?_eq_some_iff.1 hk).1).trans hk⟩, fun k cur e f _ hk => (h.block k (Array.getElem?_eq_some_iff.1 hk).1).trans hk⟩
theorem Fz.drew {B : Nat} {a b : World} (h : Fz B a b) : Fz B a b.drew := ⟨h.os, h.tape, h.output, h.size, h.block, h.bytes, h.other⟩
theorem Fz.freeze {B q m : Nat} {w : World} {cur : Array Value} {f : Nat × Nat} (hB : B ≤ q) (hq : w.heap[q]? = some (.cells cur 5 f)) : Fz B w (w.freeze ⟨q, 0, none⟩ m) := by
  by_cases hm : m = 0
  · subst hm
    exact Fz.of_below (Below.refl _ _) (by have := (Array.getElem?_eq_some_iff.1 hq).1; omega)
  · have hb : Below B w (w.freeze ⟨q, 0, none⟩ m) := Lib.below_freeze (Below.refl _ _) (p := ⟨q, 0, none⟩) hB m
    have hne : ∀ k, k ≠ q → (w.freeze ⟨q, 0, none⟩ m).heap[k]? = w.heap[k]? := by
      intro k hk
      unfold World.freeze
      rw [if_neg hm]
      simp only [Array.getElem?_modify]
      rw [if_neg (fun e => hk e.symm)]
    have hs : ∃ f', (w.freeze ⟨q, 0, none⟩ m).heap[q]? = some (.cells cur 5 f') := by
      unfold World.freeze
      rw [if_neg hm]
      simp only [Array.getElem?_modify]
      simp only [if_true, hq, Option.map_some]
      exact ⟨_, rfl⟩
    refine ⟨hb.os, hb.tape, hb.output, hb.size, hb.block, fun k c f1 hk => ?_, fun k c e f1 he hk => ?_⟩
    · by_cases e : k = q
      · subst e
        rw [hq] at hk
        injection hk with hk
        injection hk with hk1 hk2 hk3
        subst hk1
        exact hs
      · exact ⟨f1, (hne k e).trans hk⟩
    · by_cases e' : k = q
      · subst e'
        rw [hq] at hk
        injection hk with hk
        injection hk with hk1 hk2 hk3
        exact absurd hk2.symm he
      · exact (hne k e').trans hk
theorem ReadsB.fz {w w' : World} {B B' : Nat} {v : Value} {l : List UInt8} (h : ReadsB w B v l) (hf : Fz B' w w') : ReadsB w' B v l := by
  rcases h with h | ⟨q, cap, cur, f, h1, h2, h3, h4, h5⟩
  · exact .inl h
  · obtain ⟨f', hf'⟩ := hf.bytes q cur f h4
    exact .inr ⟨q, cap, cur, f', h1, h2, h3, hf', h5⟩
theorem ReadsB.low {w w' : World} {B C G : Nat} {v : Value} {l : List UInt8} (h : ReadsB w B v l) (hl : ∀ q, v.ownBlock = some q → q < C ∧ q ≠ G) (hf : Fr C G w w') : ReadsB w' B v l := by
  rcases h with h | ⟨q, cap, cur, f, h1, h2, h3, h4, h5⟩
  · exact .inl h
  · have := hl q (by rw [h1]; rfl)
    exact .inr ⟨q, cap, cur, f, h1, h2, h3, (hf.block q this.1 this.2).trans h4, h5⟩

set_option maxRecDepth 100000 in
set_option maxHeartbeats 2000000 in
theorem bstring_any (G i B : Nat) (cs : List Value) (v : Value) (l : List UInt8) (w : World) (hG : Blk w G 81 cs) (hv : cs[2 * i + 1]? = some v) (hr : ReadsB w B v l) (hB : B ≤ w.heap.size) :
    Calls Tryd.prog 34 #[ptB G (2 * i)] w fun e w' => e = .returned (.string ⟨l.toArray⟩) ∧ Fz B w w' := by
  have hGd : Blk w.drew G 81 cs := hG
  have c1 := hGd.cell (2 * i + 1) hv
  have hUS := fun (W : World) q => Lib.run_unsafeString_none (P := Tryd.prog) W 111 3 9 q
  rcases hr with ⟨rfl, rfl⟩ | ⟨q, cap, cur, f, rfl, h0, hBq, hh, hlc, hcm, hcs, htk⟩
  · have hSD : (Builtin.unsafeSliceData_ #[79] 111 #[.slice none 0 0]).run Tryd.prog w.drew = .ok (.pointer none) w.drew := rfl
    clear hG hv hGd
    go_enter Tryd.func34, Tryd.ntmps34
    go_wp2
    go_region
    all_goals (go_wp2; go_ret; exact ⟨rfl, (Fz.of_below (Below.refl _ _) hB).drew⟩)
  · have hcc : Tryd.prog.cellsOf 5 = 1 := by kernel_rfl
    have hl0 : l.length ≠ 0 := by simpa using h0
    have hSD : (Builtin.unsafeSliceData_ #[79] 111 #[.slice (some ⟨q, 0, none⟩) l.length cap]).run Tryd.prog w.drew = .ok (.pointer (some ⟨q, 0, none⟩)) w.drew :=
      Lib.run_unsafeSliceData_row _ _ _ _ _ _ (by omega)
    have hUS2 : (Builtin.unsafeString_ #[111, 3] 9 #[.pointer (some ⟨q, 0, none⟩), .int .i64 l.length]).run Tryd.prog w.drew = .ok (.string ⟨l.toArray⟩) (w.drew.freeze ⟨q, 0, none⟩ l.length) := by
      refine Lib.run_unsafeString_row w.drew 111 3 9 5 Tryd.underlying111 hcc q cur.size (by have hg' : w.drew.heap[q]? = some (.cells cur 5 f) := hh; simp [World.shape?, hg']) l h0 (by omega) (by unfold maxLen at hcm; omega) ?_
      intro j x hx
      have hjl := (List.getElem?_eq_some_iff.1 hx).1
      rw [Addr.add_lit, Nat.zero_add]
      have e1 : (Lib.byteCells l)[j]? = some (.int .u8 x.toNat) := by simp [Lib.byteCells, hx]
      rw [← htk, List.getElem?_take_of_lt hjl] at e1
      have hg' : w.drew.heap[q]? = some (.cells cur 5 f) := hh
      simp only [World.cell?, hg']
      rw [Array.getElem?_toList] at e1
      exact e1
    have hfz : Fz B w (w.drew.freeze ⟨q, 0, none⟩ l.length) := by
      have h1 : Fz B w.drew (w.drew.freeze ⟨q, 0, none⟩ l.length) := Fz.freeze hBq hh
      exact ((Fz.of_below (Below.refl _ _) hB).drew).trans h1
    clear hG hv hGd hUS
    go_enter Tryd.func34, Tryd.ntmps34
    go_wp2
    go_region
    all_goals (go_wp2; go_ret; exact ⟨rfl, hfz⟩)
end Go.Proofs.YticonolnagcakaaDoor

namespace Go.Proofs.YticonolnagcakaaDoor
open Go.RowKit

/-- the builders of a line's rows: those that are full, the one that is being written, and those that are not yet -/
structure BldS (Y : World) (G n Bc : Nat) (cs : List Value) (F : List Bs) (c : Bs) (X : World) : Prop where
  blk : Blk X G 81 cs
  len : cs.length = 2 * n
  cur : F.length < n
  ptr : ∀ i, i < n → ∃ p, cs[2 * i]? = some p ∧ (p = .pointer none ∨ p = ptB G (2 * i))
  full : ∀ i x, F[i]? = some x → ∃ v, cs[2 * i + 1]? = some v ∧ ReadsB X (G + 1) v x ∧ (∀ q, v.ownBlock = some q → q < Bc ∧ q ≠ G)
  now : ∃ v, cs[2 * F.length + 1]? = some v ∧ X.ownsRow Bc 5 1 v c.length (Lib.byteCells c) ∧ (c = [] → v = .slice none 0 0)
  rest : ∀ i, F.length < i → i < n → cs[2 * i + 1]? = some (.slice none 0 0)
  bc : G < Bc
  bx : Bc ≤ X.heap.size
  bel : Below G Y X
section
variable {Y X X' : World} {G n Bc : Nat} {cs : List Value} {F : List Bs} {c : Bs}
theorem ReadsB.below {w w' : World} {B : Nat} {v : Value} {l : List UInt8} (h : ReadsB w B v l) (hb : Below w.heap.size w w') : ReadsB w' B v l := by
  rcases h with h | ⟨q, cap, cur, f, h1, h2, h3, h4, h5⟩
  · exact .inl h
  · exact .inr ⟨q, cap, cur, f, h1, h2, h3, (hb.block q (Array.getElem?_eq_some_iff.1 h4).1).trans h4, h5⟩
theorem ReadsB.base {w : World} {B B' : Nat} {v : Value} {l : List UInt8} (h : ReadsB w B v l) (hB : B' ≤ B) : ReadsB w B' v l := by
  rcases h with h | ⟨q, cap, cur, f, h1, h2, h3, h4, h5⟩
  · exact .inl h
  · exact .inr ⟨q, cap, cur, f, h1, h2, by omega, h4, h5⟩
theorem BldS.below (h : BldS Y G n Bc cs F c X) (hb : Below X.heap.size X X') : BldS Y G n Bc cs F c X' := by
  obtain ⟨v, h1, h2, h3⟩ := h.now
  have hGX : G ≤ X.heap.size := by have := h.bc; have := h.bx; omega
  exact ⟨h.blk.below hb, h.len, h.cur, h.ptr, fun i x hx => by obtain ⟨v, a, b, d⟩ := h.full i x hx; exact ⟨v, a, b.below hb, d⟩, ⟨v, h1, owns_below h2 hb (Nat.le_refl _), h3⟩, h.rest, h.bc, Nat.le_trans h.bx hb.size, h.bel.trans (hb.mono hGX)⟩
/-- the next row -/
theorem BldS.next (h : BldS Y G n Bc cs F c X) (hn : F.length + 1 < n) : BldS Y G n X.heap.size cs (F ++ [c]) [] X := by
  obtain ⟨v, h1, h2, h3⟩ := h.now
  have hb := h.bc
  have hx := h.bx
  have hl : (F ++ [c]).length = F.length + 1 := by rw [List.length_append, List.length_singleton]
  refine ⟨h.blk, h.len, by rw [hl]; exact hn, h.ptr, fun i x hix => ?_, ⟨_, by rw [hl]; exact h.rest _ (by omega) hn, World.ownsRow_nil _ _ _ _, fun _ => rfl⟩, fun i hi hin => h.rest i (by rw [hl] at hi; omega) hin, by omega, Nat.le_refl _, h.bel⟩
  rcases Nat.lt_or_ge i F.length with hlt | hge
  · rw [List.getElem?_append_left hlt] at hix
    obtain ⟨v', a, b, d⟩ := h.full i x hix
    exact ⟨v', a, b, fun q hq => by have := d q hq; exact ⟨by omega, this.2⟩⟩
  · have hi : i = F.length := by
      have := (List.getElem?_eq_some_iff.1 hix).1
      rw [hl] at this
      omega
    subst hi
    rw [List.getElem?_append_right (Nat.le_refl _), Nat.sub_self] at hix
    injection hix with hix
    subst hix
    exact ⟨v, h1, (ReadsB.of_own h2 h3).base (by omega), fun q hq => by have := h2.lt q hq; exact ⟨this.2, by omega⟩⟩
/-- bytes written to the row that is being written -/
theorem BldS.write (h : BldS Y G n Bc cs F c X) {v' : Value} {m : Nat} {xs : List Value} {x : Bs} (hx : x ≠ []) (hxs : xs = Lib.byteCells x) (hm : m = x.length)
    (hB : Blk X' G 81 ((cs.set (2 * F.length) (ptB G (2 * F.length))).set (2 * F.length + 1) v')) (ho : X'.ownsRow Bc 5 1 v' (c.length + m) (Lib.byteCells c ++ xs)) (hf : Fr Bc G X X') :
    BldS Y G n Bc ((cs.set (2 * F.length) (ptB G (2 * F.length))).set (2 * F.length + 1) v') F (c ++ x) X' := by
  have hlen := h.len
  have hcur := h.cur
  subst hxs hm
  rw [← Lib.byteCells_append] at ho
  refine ⟨hB, by rw [List.length_set, List.length_set]; exact hlen, hcur, fun i hi => ?_, fun i y hy => ?_, ⟨v', by rw [List.getElem?_set_self (by rw [List.length_set]; omega)], by rw [List.length_append]; exact ho, fun e => ?_⟩, fun i hi hin => ?_, h.bc, Nat.le_trans h.bx hf.size, h.bel.trans (hf.below (Nat.le_of_lt h.bc) (Nat.le_refl _))⟩
  · rw [List.getElem?_set_ne (by omega)]
    by_cases e : i = F.length
    · subst e
      exact ⟨_, List.getElem?_set_self (by omega), .inr rfl⟩
    · rw [List.getElem?_set_ne (by omega)]
      exact h.ptr i hi
  · obtain ⟨v1, a, b, d⟩ := h.full i y hy
    have hlt := (List.getElem?_eq_some_iff.1 hy).1
    exact ⟨v1, by rw [List.getElem?_set_ne (by omega), List.getElem?_set_ne (by omega)]; exact a, b.low d hf, d⟩
  · exact absurd (List.append_eq_nil_iff.1 e).2 hx
  · rw [List.getElem?_set_ne (by omega), List.getElem?_set_ne (by omega)]
    exact h.rest i hi hin
end
/-- builders that have just been made -/
theorem made_two (a b : Value) (n i : Nat) (hi : i < n) : (madeCells #[a, b] (n * 2)).toList[2 * i]? = some a ∧ (madeCells #[a, b] (n * 2)).toList[2 * i + 1]? = some b := by
  have h0 : 2 * i < n * 2 := by omega
  have h1 : 2 * i + 1 < n * 2 := by omega
  have e0 : 2 * i % 2 = 0 := by omega
  have e1 : (2 * i + 1) % 2 = 1 := by omega
  constructor
  · simp [madeCells, h0, e0]
  · simp [madeCells, h1, e1]
theorem bldS_new {Y Z : World} {n : Nat} (hn : 0 < n) (ho : Z.ownsRow Y.heap.size 81 2 (.slice (some ⟨Y.heap.size, 0, none⟩) n n) n (madeCells #[.pointer none, .slice none 0 0] (n * 2)).toList) (hg : Y.grownBy Z none) :
    BldS Y Y.heap.size n (Y.heap.size + 1) (madeCells #[.pointer none, .slice none 0 0] (n * 2)).toList [] [] Z := by
  have hl := ho.1
  have hlt := (ho.lt Y.heap.size rfl).2
  have hB : Blk Z Y.heap.size 81 (madeCells #[.pointer none, .slice none 0 0] (n * 2)).toList := by
    rcases ho.2 with ⟨h, _⟩ | ⟨g, cap, cur, hv, _, hh, _, _, hs, ht⟩
    · cases h
    · injection hv with e1 _ e3
      injection e1 with e1
      injection e1 with e1
      subst e1 e3
      rw [List.take_of_length_le (by rw [Array.length_toList, hs]; exact Nat.le_refl _)] at ht
      unfold Blk
      rw [hh, ← ht]
  have hm := made_two (.pointer none) (.slice none 0 0) n
  refine ⟨hB, by rw [hl, Nat.mul_comm], hn, fun i hi => ⟨_, (hm i hi).1, .inl rfl⟩, fun i x hx => by simp at hx, ⟨_, (hm 0 hn).2, World.ownsRow_nil _ _ _ _, fun _ => rfl⟩, fun i _ hi => (hm i hi).2, Nat.lt_succ_self _, hlt, ⟨hg.os, hg.tape, hg.output, hg.size, fun k hk => hg.block k hk (by simp)⟩⟩

theorem texts_sum (W T : Nat) (l : Bs) (k : Nat) : ∃ (F : List Bs) (c : Bs) (F1 : List Bs) (c1 : Bs), textsV W T l k = (F, c) ∧ textsV W T l (k + 1) = (F1, c1 ++ shownC W T l k) ∧ F1.length = (spV W T (tk l) k).1 ∧ F.length = (stV W T (tk l) k).1 ∧ ((F1 = F ∧ c1 = c) ∨ (F1 = F ++ [c] ∧ c1 = [])) := by
  have hl := texts_len W T l k
  have hr := sp_row W T (tk l) k
  have e : textsV W T l (k + 1) = if (spV W T (tk l) k).1 ≤ (textsV W T l k).1.length then ((textsV W T l k).1, (textsV W T l k).2 ++ shownC W T l k) else ((textsV W T l k).1 ++ [(textsV W T l k).2], shownC W T l k) := rfl
  obtain ⟨⟨F, c⟩, hF⟩ : ∃ x, textsV W T l k = x := ⟨_, rfl⟩
  rw [hF] at hl e
  simp only at hl e
  by_cases h : (spV W T (tk l) k).1 ≤ F.length
  · rw [if_pos h] at e
    exact ⟨F, c, F, c, hF, e, by omega, hl, .inl ⟨rfl, rfl⟩⟩
  · rw [if_neg h] at e
    exact ⟨F, c, F ++ [c], [], hF, e, by rw [List.length_append, List.length_singleton]; omega, hl, .inr ⟨rfl, rfl⟩⟩
theorem st_mono (W T : Nat) (l : Bs) (k d : Nat) : (stV W T (tk l) k).1 ≤ (stV W T (tk l) (k + d)).1 := by
  have := (rows_keep W T l k d).1
  rw [rows_len, rows_len] at this
  exact this

/-- rows stand under what only freezes bytes -/
theorem own_fz {w w' : World} {B base : Nat} {e : TypeId} {size : Nat} {v : Value} {n : Nat} {xs : List Value} (h : w.ownsRow base e size v n xs) (he : e ≠ 5) (hf : Fz B w w') : w'.ownsRow base e size v n xs := by
  refine ⟨h.1, ?_⟩
  rcases h.2 with hn | ⟨g, cap, cur, rfl, hb, hg, rest⟩
  · exact .inl hn
  · exact .inr ⟨g, cap, cur, rfl, hb, hf.other g cur e (0, 0) he hg, rest⟩
theorem Blk.fz {w w' : World} {B G : Nat} {t : TypeId} {xs : List Value} (h : Blk w G t xs) (he : t ≠ 5) (hf : Fz B w w') : Blk w' G t xs := hf.other G xs.toArray t (0, 0) he h
theorem ReadsB.grown {w w' : World} {B base size n : Nat} {e : TypeId} {v u : Value} {l : List UInt8} {xs : List Value} (h : ReadsB w B v l) (ho : w.ownsRow base e size u n xs) (he : e ≠ 5) (hg : w.grownBy w' u.ownBlock) : ReadsB w' B v l := by
  rcases h with h | ⟨q, cap, cur, f, h1, h2, h3, h4, h5⟩
  · exact .inl h
  · refine .inr ⟨q, cap, cur, f, h1, h2, h3, ?_, h5⟩
    rw [hg.block q (Array.getElem?_eq_some_iff.1 h4).1 ?_]
    · exact h4
    · intro e'
      rcases ho.2 with ⟨rfl, _⟩ | ⟨g, cap', cur', rfl, _, hgb, _⟩
      · simp [Value.ownBlock] at e'
      · simp [Value.ownBlock] at e'
        subst e'
        rw [h4] at hgb
        injection hgb with hgb
        injection hgb with _ hgb
        exact he hgb.symm

/-- what is shown of a character is short -/
theorem shown_len (W T : Nat) (hW : W ≤ 1024) (l : Bs) (k : Nat) (hk : k < countN l) : (shownC W T l k).length ≤ 1024 := by
  obtain ⟨_, _, _, _, _, _, _, _, tn, _, _, _, _, htn, _, htb, _⟩ := rows_sum W T hW l k
  have hw : ((tk l)[k]?.getD (0, 0)).2 ≤ 4 := by
    have hk' : k < (tk l).length := hk
    rw [List.getElem?_eq_getElem hk']
    exact (tk_wid l _ (List.getElem_mem hk')).2
  unfold shownC
  simp only
  split
  · simp
  · split
    · rw [List.length_replicate, htn]; exact htb
    · split
      · simp
      · rw [List.length_take]; omega
theorem texts_bound (W T : Nat) (hW : W ≤ 1024) (l : Bs) : ∀ k, k ≤ countN l → (textsV W T l k).2.length ≤ 1024 * k
  | 0, _ => by simp [textsV]
  | k + 1, h => by
    have ih := texts_bound W T hW l k (by omega)
    have hs := shown_len W T hW l k (by omega)
    obtain ⟨F, c, F1, c1, h1, h2, _, _, h3⟩ := texts_sum W T l k
    rw [h1] at ih
    rw [h2]
    show (c1 ++ shownC W T l k).length ≤ _
    rw [List.length_append]
    rcases h3 with ⟨_, rfl⟩ | ⟨_, rfl⟩
    · simp only at ih; omega
    · simp; omega

theorem get_dec (l : Bs) (k : Nat) (hk : k < countN l) : (tk l)[k]?.getD (0, 0) = Lib.decodeL (l.drop (atN l k)) := by
  have hlt := atN_lt l (show k < countN l from hk) (Nat.le_refl _)
  rw [atN_full] at hlt
  have hg := (cut_at l k (Nat.le_of_lt hk)).get hlt
  rw [List.length_take, Nat.min_eq_left (show k ≤ (tk l).length from Nat.le_of_lt hk)] at hg
  exact hg
/-- a tab takes at least one column -/
theorem tab_pos (W T : Nat) (cs : List (Nat × Nat)) (k : Nat) (h9 : (cs[k]?.getD (0, 0)).1 = 9) : 0 < tkV W T cs k := by
  have hp : ∀ col, 0 < takesV W T (cs[k]?.getD (0, 0)) col := by
    intro col
    unfold takesV
    split
    · omega
    · omega
  unfold tkV
  rcases put_cases W T (stV W T cs k) (cs[k]?.getD (0, 0)) with ⟨_, h2, _⟩ | ⟨_, h2, _⟩ <;> rw [h2] <;> exact hp _
theorem tkV_bound (W T : Nat) (hW : W ≤ 1024) (l : Bs) (k : Nat) : tkV W T (tk l) k ≤ 1024 := by
  obtain ⟨_, _, _, _, _, _, _, _, tn, _, _, _, _, htn, _, htb, _⟩ := rows_sum W T hW l k
  rw [htn]
  exact htb
theorem BldS.all {Y X : World} {G n Bc : Nat} {cs : List Value} {F : List Bs} {c : Bs} (h : BldS Y G n Bc cs F c X) : ∀ i x, (F ++ [c])[i]? = some x → ∃ v, cs[2 * i + 1]? = some v ∧ ReadsB X (G + 1) v x := by
  intro i x hix
  rcases Nat.lt_or_ge i F.length with hlt | hge
  · rw [List.getElem?_append_left hlt] at hix
    obtain ⟨v', a, b, d⟩ := h.full i x hix
    exact ⟨v', a, b⟩
  · have hi : i = F.length := by
      have := (List.getElem?_eq_some_iff.1 hix).1
      rw [List.length_append, List.length_singleton] at this
      omega
    subst hi
    rw [List.getElem?_append_right (Nat.le_refl _), Nat.sub_self] at hix
    injection hix with hix
    subst hix
    obtain ⟨v, h1, h2, h3⟩ := h.now
    exact ⟨v, h1, (ReadsB.of_own h2 h3).base h.bc⟩
end Go.Proofs.YticonolnagcakaaDoor

namespace Go.Proofs.YticonolnagcakaaDoor
open Go.RowKit

set_option maxHeartbeats 1000000 in
theorem vhidden_any (r : Int) (w : World) : Calls Tryd.prog 33 #[.int .i32 r] w fun e w' => e = .returned (.bool (hideV r)) ∧ w = w' := by
  have HE := Lib.hid (fun w => ends_any r w)
  unfold hideV
  obtain ⟨b, hb⟩ : ∃ b, endsB r = b := ⟨_, rfl⟩
  rw [hb] at HE ⊢
  clear hb
  by_cases h1 : r < 32
  · rw [decide_eq_true h1]
    go_enter Tryd.func33, Tryd.ntmps33
    go_wp2_with fail
    go_ret
    exact ⟨rfl, rfl⟩
  · rw [decide_eq_false h1]
    by_cases h2 : 127 ≤ r
    · by_cases h3 : r ≤ 159
      · rw [decide_eq_true h2, decide_eq_true h3]
        go_enter Tryd.func33, Tryd.ntmps33
        go_wp2_with fail
        go_ret
        exact ⟨rfl, rfl⟩
      · rw [decide_eq_true h2, decide_eq_false h3]
        go_enter Tryd.func33, Tryd.ntmps33
        go_wp2_with (first | (go_at_call 50; (with_reducible refine (HE.out _).mono ?_); rintro e w2 ⟨rfl, rfl⟩))
        go_ret
        exact ⟨ret_bool (by simp), rfl⟩
    · rw [decide_eq_false h2]
      go_enter Tryd.func33, Tryd.ntmps33
      go_wp2_with (first | (go_at_call 50; (with_reducible refine (HE.out _).mono ?_); rintro e w2 ⟨rfl, rfl⟩))
      go_ret
      exact ⟨ret_bool (by simp), rfl⟩

/-- Shown, of any numbers. -/
def shownR (W T : Int) (l : Bs) : List Bs × Int := if goodV W T = false then ([], 280) else ((textsV W.toNat T.toNat l (countN l)).1 ++ [(textsV W.toNat T.toNat l (countN l)).2], 0)
/-- texts as values -/
def strV (L : List Bs) : List Value := L.map fun x => Value.string ⟨x.toArray⟩

theorem info_bld : (Tryd.prog.info? 81).map (fun i => (i.zero, i.size, i.bytes)) = some (some (.agg #[.pointer none, .slice none 0 0]), 2, 32) := by kernel_rfl
theorem info_strv : (Tryd.prog.info? 9).map (fun i => (i.zero, i.size, i.bytes)) = some (some (.string ⟨#[]⟩), 1, 16) := by kernel_rfl

set_option maxRecDepth 100000 in
set_option maxHeartbeats 8000000 in
theorem vshown_any (W T : Int) (s : ByteArray) (hs : s.size ≤ 67108864) (w : World) (hT : Tabs w) :
    Calls Tryd.prog 12 #[.string s, .int .i64 W, .int .i64 T] w fun e w' => ∃ v, e = .returned (.tuple #[v, .int .i64 (shownR W T (bs s)).2]) ∧
      w'.ownsRow w.heap.size 9 1 v (shownR W T (bs s)).1.length (strV (shownR W T (bs s)).1) ∧ Below w.heap.size w w' := by
  have HT := Lib.hid hT
  clear hT
  have HG := Lib.hid (fun w => vright_any W T w)
  cases hg : goodV W T
  · rw [hg] at HG
    have hv : shownR W T (bs s) = ([], 280) := if_pos hg
    rw [hv]
    clear hv hg
    go_enter Tryd.func12, Tryd.ntmps12
    go_wp2_with (first | (go_at_call 26; (with_reducible refine (HG.out _).mono ?_); rintro e w2 ⟨rfl, rfl⟩))
    go_ret2
    exact ⟨_, rfl, World.ownsRow_nil _ _ _ _, Below.refl _ _⟩
  · rw [hg] at HG
    obtain ⟨i0, hi, hz0, hz1, hz2⟩ := info_parts info_bld
    obtain ⟨i1, hi1, hy0, hy1, hy2⟩ := info_parts info_strv
    obtain ⟨W', T', rfl, rfl, hW, hW2, hT1, hT2⟩ := goodV_of hg
    have hv : shownR (W' : Nat) (T' : Nat) (bs s) = ((textsV W' T' (bs s) (countN (bs s))).1 ++ [(textsV W' T' (bs s) (countN (bs s))).2], 0) := if_neg (by rw [hg]; simp)
    have HP := Lib.hid (fun w hT => vput_at W' T' hW hW2 hT1 hT2 s (by omega) w hT)
    have hle : countN (bs s) ≤ s.size := by rw [size_bs]; exact countN_le _
    rw [hv]
    obtain ⟨l, hl⟩ : ∃ l, bs s = l := ⟨_, rfl⟩
    have HL := Lib.hid hl
    have HLEN := Lib.hid (show l.length = s.size by rw [← hl, size_bs])
    rw [hl] at HP hle ⊢
    obtain ⟨N, hN⟩ : ∃ N, countN l = N := ⟨_, rfl⟩
    rw [hN] at HP hle ⊢
    have HN := Lib.hid hN
    have hrow := st_row W' T' (tk l) N
    obtain ⟨⟨lr, lc⟩, hst⟩ : ∃ x, stV W' T' (tk l) N = x := ⟨_, rfl⟩
    rw [hst] at HP hrow
    have HST := Lib.hid hst
    simp only at hrow HP
    clear hl hN hg hv hst
    go_enter Tryd.func12, Tryd.ntmps12
    go_upto_region 4 with (first
      | (go_at_call 26; (with_reducible refine (HG.out _).mono ?_); rintro e w2 ⟨rfl, rfl⟩)
      | (go_at_call 27; (with_reducible refine (HP.out _ HT.out).mono ?_); rintro e w2 ⟨ao, cap, rfl, ho, hb2⟩))
    go_name_world Y hY
    have hL : Blk Y w2.heap.size 42 [.int .i64 (lr : Nat), .int .i64 (lc : Nat)] := by rw [← hY]; exact Blk.new w2 _ _
    have hBY : Below w.heap.size w Y := by rw [← hY]; exact al hb2 _
    have hb2Y : Below w2.heap.size w2 Y := by rw [← hY]; exact al (Below.refl _ _) _
    have HO := Lib.hid ho
    have d0 := hL.cell 0 rfl
    clear hY ho hL
    have hwY := hBY.size
    have hw2Y := hb2Y.size
    obtain ⟨Z, hrun, hoZ, hgZ⟩ := run_make_full (P := Tryd.prog) Y Y.heap.size 77 81 i0 _ 2 Tryd.underlying77 hi hz0 hz1 .i64 .i64 (lr + 1) (by rw [hz2]; omega) (by unfold maxLen; omega) (Nat.le_refl _)
    have hS0 := bldS_new (Y := Y) (Nat.succ_pos lr) hoZ hgZ
    rw [show (((lr + 1 : Nat)) : Int) = (lr : Int) + 1 from rfl] at hrun
    obtain ⟨G, hG⟩ : ∃ G, Y.heap.size = G := ⟨_, rfl⟩
    rw [hG] at hrun hS0 hwY hw2Y
    have HGY := Lib.hid hG
    clear hoZ hgZ hG
    go_upto_block 0 with fail
    have hdrep : ∀ m, Lib.repeatL [32] m = List.replicate m 32 := by
      intro m
      induction m with
      | zero => rfl
      | succ m ih => rw [Lib.repeatL, ih]; rfl
    have HREP := Lib.hid hdrep
    have HHID := Lib.hid (fun r w => vhidden_any r w)
    clear hdrep
    go_wp2_with fail
    go_loopw [34] (fun i wr => ∃ (k Bc : Nat) (cs : List Value), i = .int .i64 (k : Nat) ∧ k ≤ N ∧ BldS Y G (lr + 1) Bc cs (textsV W' T' l k).1 (textsV W' T' l k).2 wr) (fun i _ => N - (intOf i).toNat)
    case atStart => exact ⟨0, G + 1, _, rfl, Nat.zero_le _, hS0⟩
    case round =>
      clear hS0 hrun d0
      obtain ⟨k, Bc, cs, rfl, hk, hS⟩ := hrel
      by_cases hlt : k < N
      · obtain ⟨g, rfl, hg1, hg2, hrow7⟩ := HO.out (by omega)
        have hYr : Below G Y wr := hS.bel
        have hrw := (hrow7.under hb2Y hg2).under hYr (by omega)
        have d0 := hrw k 0 hlt (by omega)
        have d1 := hrw k 1 hlt (by omega)
        have d2 := hrw k 2 hlt (by omega)
        have d3 := hrw k 3 hlt (by omega)
        have d4 := hrw k 4 hlt (by omega)
        have d5 := hrw k 5 hlt (by omega)
        have d6 := hrw k 6 hlt (by omega)
        obtain ⟨F, c, F1, c1, ht1, ht2, hF1, hF, hcase⟩ := texts_sum W' T' l k
        have hcb := texts_bound W' T' hW2 l k (by rw [HN.out]; exact hk)
        have htpos : 0 < tkV W' T' (tk l) k ∨ ((tk l)[k]?.getD (0, 0)).1 ≠ 9 := by
          by_cases h9 : ((tk l)[k]?.getD (0, 0)).1 = 9
          · left
            exact tab_pos W' T' (tk l) k h9
          · exact .inr h9
        have hrow1 : (spV W' T' (tk l) k).1 ≤ lr := by
          have h1 := (sp_row W' T' (tk l) k).2.2
          have h2 := st_mono W' T' l (k + 1) (N - (k + 1))
          rw [show k + 1 + (N - (k + 1)) = N by omega, HST.out] at h2
          simp only at h2
          omega
        rw [ht1] at hS hcb
        simp only at hS hcb
        unfold chC at d0 d1 d2 d3 d4 d5 d6
        obtain ⟨b, hbb⟩ : ∃ x, rightR (((tk l)[k]?.getD (0, 0)).1 : Int) ((tk l)[k]?.getD (0, 0)).2 = x := ⟨_, rfl⟩
        have hsh : shownC W' T' l k = if b = false then [239, 191, 189] else if ((tk l)[k]?.getD (0, 0)).1 = 9 then List.replicate (tkV W' T' (tk l) k) 32 else if hideV (((tk l)[k]?.getD (0, 0)).1 : Int) = true then [] else (l.drop (atN l k)).take (atN l (k + 1) - atN l k) := by
          rw [← hbb, atN_succ l k (by rw [HN.out]; exact hlt), Nat.add_sub_cancel_left]
          rfl
        have ha12 : atN l k < atN l (k + 1) ∧ atN l (k + 1) ≤ l.length := by
          refine ⟨atN_lt l (Nat.lt_succ_self k) (by rw [HN.out]; omega), ?_⟩
          have := (cut_at l (k + 1) (by rw [HN.out]; omega)).1
          exact this
        have hr31 : ((tk l)[k]?.getD (0, 0)).1 ≤ 1114111 := by
          rw [show (tk l)[k]?.getD (0, 0) = Lib.decodeL (l.drop (atN l k)) from get_dec l k (by rw [HN.out]; exact hlt)]
          exact dec_le _
        rw [hbb] at d0 d1 d2 d3 d4 d5 d6
        obtain ⟨r, hr⟩ : ∃ x, ((tk l)[k]?.getD (0, 0)).1 = x := ⟨_, rfl⟩
        obtain ⟨a, ha⟩ : ∃ x, atN l k = x := ⟨_, rfl⟩
        obtain ⟨a2, ha2⟩ : ∃ x, atN l (k + 1) = x := ⟨_, rfl⟩
        obtain ⟨⟨sl, sc⟩, hsp⟩ : ∃ x, spV W' T' (tk l) k = x := ⟨_, rfl⟩
        obtain ⟨tn, htn⟩ : ∃ x, tkV W' T' (tk l) k = x := ⟨_, rfl⟩
        have htb : tn ≤ 1024 := by rw [← htn]; exact tkV_bound W' T' hW2 l k
        rw [hr, ha, ha2, hsp, htn] at d0 d1 d2 d3 d4 d5 d6
        rw [hr, ha, ha2, htn] at hsh
        rw [ha, ha2] at ha12
        rw [hr] at hr31 htpos
        rw [htn] at htpos
        rw [hsp] at hF1 hrow1
        simp only at hF1 hrow1
        replace d0 : wr.cell? ⟨g, k * 7, none⟩ = some (.int .i64 (a : Nat)) := d0
        replace d1 : wr.cell? ⟨g, k * 7 + 1, none⟩ = some (.int .i64 (a2 : Nat)) := d1
        replace d2 : wr.cell? ⟨g, k * 7 + 2, none⟩ = some (.int .i32 (r : Nat)) := d2
        replace d3 : wr.cell? ⟨g, k * 7 + 3, none⟩ = some (.bool b) := d3
        replace d4 : wr.cell? ⟨g, k * 7 + 4, none⟩ = some (.int .i64 (sl : Nat)) := d4
        replace d5 : wr.cell? ⟨g, k * 7 + 5, none⟩ = some (.int .i64 (sc : Nat)) := d5
        replace d6 : wr.cell? ⟨g, k * 7 + 6, none⟩ = some (.int .i64 (tn : Nat)) := d6
        have HSH := Lib.hid hsh
        have HT2 := Lib.hid ht2
        have hslF : F1.length = sl := hF1
        have HF1 := Lib.hid hslF
        obtain ⟨Bc1, hS1, hc1⟩ : ∃ Bc1, BldS Y G (lr + 1) Bc1 cs F1 c1 wr ∧ c1.length ≤ 1024 * k := by
          rcases hcase with ⟨rfl, rfl⟩ | ⟨rfl, rfl⟩
          · exact ⟨Bc, hS, hcb⟩
          · rw [List.length_append, List.length_singleton] at hslF
            exact ⟨_, hS.next (by omega), Nat.zero_le _⟩
        clear hbb hr ha ha2 hsp htn hrw hrow7 hsh ht1 ht2 hF1 hF hcase hslF hcb hS hYr
        go_upto_region 8 with fail
        go_name_world X hX
        have hC : Blk X wr.heap.size 67 [.int .i64 (a : Nat), .int .i64 (a2 : Nat), .int .i32 (r : Nat), .bool b, .int .i64 (sl : Nat), .int .i64 (sc : Nat), .int .i64 (tn : Nat)] := by rw [← hX]; exact Blk.new wr _ _
        have hSX : BldS Y G (lr + 1) Bc1 cs F1 c1 X := by rw [← hX]; exact hS1.below (al (Below.refl _ _) _)
        obtain ⟨Cb, hCb⟩ : ∃ Cb, wr.heap.size = Cb := ⟨_, rfl⟩
        rw [hCb] at hC ⊢
        clear hX hCb hS1 d0 d1 d2 d3 d4 d5 d6
        have e0 := hC.cell 0 rfl
        have e1 := hC.cell 1 rfl
        have e2 := hC.cell 2 rfl
        have e3 := hC.cell 3 rfl
        have e4 := hC.cell 4 rfl
        have e6 := hC.cell 6 rfl
        have hsl1 : sl < lr + 1 := by omega
        go_upto_block 2 with fail
        rw [Nat.mul_comm sl 2]
        obtain ⟨p, hp1, hp2⟩ := hSX.ptr sl hsl1
        obtain ⟨v, hv, hown, -⟩ := hSX.now
        rw [HF1.out] at hv
        have hlenS := HLEN.out
        have hc36 : c1.length ≤ 68719476736 := by omega
        have HWR := Lib.hid (bwriterune_any G sl (lr + 1) cs p v Bc1 c1.length (Lib.byteCells c1) 65533 (by omega) (by omega) X hSX.blk hSX.len hsl1 hp1 hp2 hv hown hSX.bx hSX.bc (by omega))
        have HWS := Lib.hid (fun (st : ByteArray) (hst : st.size ≤ 68719476736) (w : World) (hb : Below X.heap.size X w) => bwrite_any G sl (lr + 1) cs p v Bc1 c1.length (Lib.byteCells c1) st w (hSX.below hb).blk hSX.len hsl1 hp1 hp2 hv (owns_below hown hb (Nat.le_refl _)) (hSX.below hb).bx hSX.bc (by omega))
        clear hp1 hp2 hv hown hc1
        cases b
        · go_wp2_with (first | (go_at_call 30; (with_reducible refine HWR.out.mono ?_); rintro e w5 ⟨x, rfl, v', hB5, ho5, hf5⟩))
          have hS5 := hSX.write (x := [239, 191, 189]) (by simp) (by rfl) (by rfl) (by rw [HF1.out]; exact hB5) ho5 hf5
          rw [show c1 ++ [239, 191, 189] = (textsV W' T' l (k + 1)).2 by rw [HT2.out, HSH.out, if_pos trivial], show F1 = (textsV W' T' l (k + 1)).1 by rw [HT2.out]] at hS5
          exact ⟨⟨k + 1, _, _, by go_num, hlt, hS5⟩, by simp [intOf]; omega⟩
        · by_cases h9 : r = 9
          · subst h9
            have htn : 0 < tn := by omega
            obtain ⟨st, hst⟩ : ∃ st : ByteArray, st = ⟨(List.replicate tn 32).toArray⟩ := ⟨_, rfl⟩
            have hsz : st.size = tn := by rw [hst]; simp [ByteArray.size]
            have HRP : Hid (∀ w, Calls Tryd.prog 32 #[.string ⟨#[32]⟩, .int .i64 (tn : Nat)] w fun e w' => e = .returned (.string st) ∧ Below w.heap.size w w') := by
              refine Lib.hid (fun w => (Tryd.strings_Repeat ⟨#[32]⟩ tn w (by omega) (by show 1 * tn ≤ _; omega)).mono ?_)
              rintro e w' ⟨rfl, hb⟩
              refine ⟨?_, hb⟩
              rw [hst, ← HREP.out]
            have hcs : Lib.strCells st = Lib.byteCells (List.replicate tn 32) := by rw [Lib.strCells_eq, hst]
            have HCS := Lib.hid hcs
            have HSZ := Lib.hid hsz
            clear hst hsz hcs htpos
            go_wp2_with (first
              | (go_at_call 32; (with_reducible refine (HRP.out _).mono ?_); rintro e w4 ⟨rfl, hb4⟩)
              | (go_at_call 31; (with_reducible refine (HWS.out st (by rw [HSZ.out]; omega) _ hb4).mono ?_); rintro e w5 ⟨rfl, v', hB5, ho5, -, hf5⟩))
            have hS5 := (hSX.below hb4).write (x := List.replicate tn 32) (by intro e; have := congrArg List.length e; simp at this; omega) HCS.out (by rw [HSZ.out, List.length_replicate]) (by rw [HF1.out]; exact hB5) ho5 hf5
            rw [show c1 ++ List.replicate tn 32 = (textsV W' T' l (k + 1)).2 by rw [HT2.out, HSH.out, if_neg (by simp), if_pos trivial], show F1 = (textsV W' T' l (k + 1)).1 by rw [HT2.out]] at hS5
            exact ⟨⟨k + 1, _, _, by go_num, hlt, hS5⟩, by simp [intOf]; omega⟩
          · have hd9 : ((r : Int) == 9) = false := beq_eq_false_iff_ne.2 (by omega)
            have HHI := Lib.hid (fun w => HHID.out (r : Nat) w)
            cases hh : hideV (r : Nat)
            · rw [hh] at HHI
              have hsz : (s.extract a a2).size = a2 - a := by rw [size_bs, bs_extract, HL.out, List.length_take, List.length_drop]; omega
              have hcs : Lib.strCells (s.extract a a2) = Lib.byteCells ((l.drop a).take (a2 - a)) := by rw [Lib.strCells_eq]; exact congrArg _ ((bs_extract s a a2).trans (by rw [HL.out]))
              have hne : (l.drop a).take (a2 - a) ≠ [] := by intro e; have := congrArg List.length e; simp at this; omega
              have hln : (s.extract a a2).size = ((l.drop a).take (a2 - a)).length := by rw [hsz, List.length_take, List.length_drop]; omega
              have HCS := Lib.hid (And.intro hcs (And.intro hne hln))
              have hsb : (s.extract a a2).size ≤ 68719476736 := by omega
              have HSB := Lib.hid hsb
              have HHH := Lib.hid hh
              have ha2s : a2 ≤ s.size := by omega
              clear hcs hne hln hsz hsb hh htpos
              go_wp2_with (first
                | (go_at_call 33; (with_reducible refine (HHI.out _).mono ?_); rintro e w4 ⟨rfl, rfl⟩)
                | (go_at_call 31; (with_reducible refine (HWS.out (s.extract a a2) HSB.out _ (Below.refl _ _)).mono ?_); rintro e w5 ⟨rfl, v', hB5, ho5, -, hf5⟩))
              have hS5 := hSX.write (x := (l.drop a).take (a2 - a)) HCS.out.2.1 HCS.out.1 HCS.out.2.2 (by rw [HF1.out]; exact hB5) ho5 hf5
              rw [show c1 ++ (l.drop a).take (a2 - a) = (textsV W' T' l (k + 1)).2 by rw [HT2.out, HSH.out, if_neg (by simp), if_neg h9, if_neg (by rw [HHH.out]; simp)], show F1 = (textsV W' T' l (k + 1)).1 by rw [HT2.out]] at hS5
              exact ⟨⟨k + 1, _, _, by go_num, hlt, hS5⟩, by simp [intOf]; omega⟩
            · rw [hh] at HHI
              have HHH := Lib.hid hh
              clear hh
              go_wp2_with (first
                | (go_at_call 33; (with_reducible refine (HHI.out _).mono ?_); rintro e w4 ⟨rfl, rfl⟩))
              have hS5 := hSX
              rw [show c1 = (textsV W' T' l (k + 1)).2 by rw [HT2.out, HSH.out, if_neg (by simp), if_neg h9, if_pos HHH.out, List.append_nil], show F1 = (textsV W' T' l (k + 1)).1 by rw [HT2.out]] at hS5
              exact ⟨⟨k + 1, _, _, by go_num, hlt, hS5⟩, by simp [intOf]; omega⟩
      · obtain rfl : k = N := by omega
        have hlF : (textsV W' T' l k).1.length = lr := by rw [texts_len, HST.out]
        have hall := hS.all
        have hB0 := hS.blk
        have hbel := hS.bel
        have hsz0 : G + 1 ≤ wr.heap.size := by have := hS.bc; have := hS.bx; omega
        have hcl := hS.len
        obtain ⟨L, hL⟩ : ∃ L, (textsV W' T' l k).1 ++ [(textsV W' T' l k).2] = L := ⟨_, rfl⟩
        have hLl : L.length = lr + 1 := by rw [← hL, List.length_append, List.length_singleton, hlF]
        rw [hL] at hall
        have HLL := Lib.hid hL
        have HLN := Lib.hid hLl
        clear hL hLl hlF hS
        have hd : decide (k < k) = false := decide_eq_false (by omega)
        go_wp2_with fail
        go_loopw [14, 76] (fun v i wx => ∃ j : Nat, i = .int .i64 (j : Nat) ∧ j ≤ lr + 1 ∧ Blk wx G 81 cs ∧ Hid (∀ i x, L[i]? = some x → ∃ v, cs[2 * i + 1]? = some v ∧ ReadsB wx (G + 1) v x) ∧ wx.ownsRow (G + 1) 9 1 v j (strV (L.take j)) ∧ Below G Y wx ∧ G + 1 ≤ wx.heap.size) (fun _ i _ => lr + 1 - (intOf i).toNat)
        case atStart => exact ⟨0, rfl, Nat.zero_le _, hB0, Lib.hid hall, World.ownsRow_nil _ _ _ _, hbel, hsz0⟩
        case round =>
          clear hall hB0 hbel hsz0
          obtain ⟨j, rfl, hj, hB, hR, ho, hbl, hsz⟩ := hrel
          by_cases hjl : j < lr + 1
          · obtain ⟨x, hx⟩ : ∃ x, L[j]? = some x := ⟨_, List.getElem?_eq_getElem (by rw [HLN.out]; exact hjl)⟩
            obtain ⟨vj, hv1, hv2⟩ := hR.out j x hx
            have hstr := bstring_any G j (G + 1) cs vj x _ hB hv1 hv2 hsz
            rw [Nat.mul_comm 2 j] at hstr
            have HSTR := Lib.hid hstr
            have HX := Lib.hid (show strV (L.take j) ++ [.string ⟨x.toArray⟩] = strV (L.take (j + 1)) by
              have hjL : j < L.length := by rw [HLN.out]; exact hjl
              rw [List.take_succ_eq_append_getElem hjL]
              rw [List.getElem?_eq_getElem hjL] at hx
              injection hx with hx
              rw [hx]
              unfold strV
              rw [List.map_append]
              rfl)
            obtain ⟨st, hst⟩ : ∃ st : ByteArray, ⟨x.toArray⟩ = st := ⟨_, rfl⟩
            rw [hst] at HSTR HX
            clear hstr hv1 hv2 hx hst
            have hji : (j : Int) < ((lr + 1 : Nat) : Int) := by omega
            go_wp2_with (first
              | (go_at_call 34; (with_reducible refine HSTR.out.mono ?_); rintro e w5 ⟨rfl, hfz⟩; have ho5 := own_fz ho (by decide) hfz; have hB5 := hB.fz (by decide) hfz; have hsz5 := hfz.size)
              | (at_builtin; refine wpList_append_own _ rfl _ _ 33 rfl (G + 1) 9 i1 (.string ⟨#[]⟩) 1 16 Tryd.underlying33 hi1 hy0 hy1 hy2 rfl (by decide) u14 _ _ rfl (ho5.alloc _) ⟨w5.heap.size, 0, none⟩ 1 1 [.string st] rfl (by simp) (cells_new _ _ _) (by simp [Value.oneCell']) (by unfold maxLen; omega) (by omega) (by simp; omega) ?_; intro v' w7 hown' hgrow _))
            have hne : ∀ q, q < G + 1 → some q ≠ u14.ownBlock := fun q hq e => by have := (ho.lt q e.symm).1; omega
            have hB7 := (hB5.alloc (.cells #[.string st] 9)).kept hgrow (hne G (by omega))
            have hb7 : Below (G + 1) w5 w7 := (Below.alloc (Below.refl _ _) (by omega) _).grown hgrow (by rw [World.size_alloc]; omega) (fun q e => (ho.lt q e).1)
            refine ⟨⟨j + 1, by go_num, hjl, hB7, Lib.hid (fun i y hy => ?_), ?_, (hbl.trans (hfz.below.mono (Nat.le_succ _))).trans (hb7.mono (Nat.le_succ _)), by have := hb7.size; omega⟩, by simp [intOf]; omega⟩
            · obtain ⟨v, a, b⟩ := hR.out i y hy
              exact ⟨v, a, ((b.fz hfz).below ((Below.refl _ _).alloc (Nat.le_refl _) _)).grown (ho5.alloc _) (by decide) hgrow⟩
            · rw [← HX.out]
              exact hown'
          · obtain rfl : j = lr + 1 := by omega
            have hd2 : decide (lr + 1 < lr + 1) = false := decide_eq_false (by omega)
            rw [List.take_of_length_le (by rw [HLN.out]; exact Nat.le_refl _)] at ho
            go_wp2_with fail
            go_ret2
            refine ⟨_, rfl, ?_, hBY.trans (hbl.mono hwY)⟩
            rw [HLL.out, HLN.out]
            exact owns_base ho (by omega)
end Go.Proofs.YticonolnagcakaaDoor

namespace Go.Proofs.YticonolnagcakaaDoor
open Go.RowKit

theorem findP_top {f : Nat → Bool} {m : Nat} : ∀ {n : Nat}, m ≤ n → (∀ j, m ≤ j → j < n → f j = false) → findP f n = findP f m
  | 0, h, _ => by rw [show m = 0 by omega]
  | n + 1, h, hj => by
    by_cases e : m = n + 1
    · rw [e]
    · have h1 := hj n (by omega) (by omega)
      have h2 := findP_top (n := n) (by omega) (fun j a b => hj j a (by omega))
      rw [← h2]
      show (if f n = true then some n else findP f n) = _
      rw [if_neg (by rw [h1]; simp)]
def placeO : Option Nat → Int × Int
  | some i => ((i : Nat), 0)
  | none => (0, 6)
/-- Place, of any numbers. -/
def placeR (W T : Int) (l : Bs) (r c : Int) : Int × Int := if goodV W T = false then (0, 280) else placeO (placeV W.toNat T.toNat l r c)

/-- a character that is asked for its spot: those of the line, and one behind all -/
def chP (W T : Nat) (l : Bs) (i : Nat) : List Value := if i < countN l then chC W T l i else chV 0 0 0 false (stV W T (tk l) (countN l)).1 (stV W T (tk l) (countN l)).2 0
theorem chP_len (W T : Nat) (l : Bs) (i : Nat) : (chP W T l i).length = 7 := by
  unfold chP
  split <;> rfl
theorem chP_spot (W T : Nat) (l : Bs) (i : Nat) (hi : i < countN l + 1) : (chP W T l i)[4]? = some (.int .i64 ((atV W T l i).1 : Nat)) ∧ (chP W T l i)[5]? = some (.int .i64 ((atV W T l i).2 : Nat)) := by
  unfold chP atV
  by_cases h : i < countN l
  · rw [if_pos h, if_pos h]
    exact ⟨rfl, rfl⟩
  · have e : i = countN l := by omega
    rw [if_neg h, if_neg h, e]
    exact ⟨rfl, rfl⟩
theorem chP_rows (W T : Nat) (l : Bs) : rowsF (countN l) (chC W T l) ++ chV 0 0 0 false (stV W T (tk l) (countN l)).1 (stV W T (tk l) (countN l)).2 0 = rowsF (countN l + 1) (chP W T l) := by
  rw [rowsF_succ, rowsF_congr (countN l) (chP W T l) (chC W T l) (fun k hk => if_pos hk)]
  congr 1
  unfold chP
  rw [if_neg (Nat.lt_irrefl _)]

set_option maxRecDepth 100000 in
set_option maxHeartbeats 2000000 in
theorem vplace_any (W T : Int) (s : ByteArray) (hs : s.size ≤ 1099511627776) (r c : Int) (w : World) (hT : Tabs w) :
    Calls Tryd.prog 19 #[.string s, .int .i64 W, .int .i64 T, .agg #[.int .i64 r, .int .i64 c]] w fun e w' => e = .returned (.tuple #[.int .i64 (placeR W T (bs s) r c).1, .int .i64 (placeR W T (bs s) r c).2]) ∧ Below w.heap.size w w' := by
  have HT := Lib.hid hT
  clear hT
  obtain ⟨i0, hi, hz0, hz1, hz2⟩ := info_parts info_vchar
  have HG := Lib.hid (fun w => vright_any W T w)
  cases hg : goodV W T
  · rw [hg] at HG
    have hv : placeR W T (bs s) r c = (0, 280) := if_pos hg
    rw [hv]
    clear hv hg
    go_enter Tryd.func19, Tryd.ntmps19
    go_wp2_with (first | (go_at_call 26; (with_reducible refine (HG.out _).mono ?_); rintro e w2 ⟨rfl, rfl⟩))
    go_ret2
    exact ⟨rfl, al (Below.refl _ _) _⟩
  · rw [hg] at HG
    obtain ⟨W', T', rfl, rfl, hW, hW2, hT1, hT2⟩ := goodV_of hg
    have hv : placeR (W' : Nat) (T' : Nat) (bs s) r c = placeO (findP (hereV W' T' (bs s) r c) (countN (bs s) + 1)) := if_neg (by rw [hg]; simp)
    have HP := Lib.hid (fun w hT => vput_any W' T' hW hW2 hT1 hT2 s hs w hT)
    have hle : countN (bs s) ≤ s.size := by rw [size_bs]; exact countN_le _
    obtain ⟨l, hl⟩ : ∃ l, bs s = l := ⟨_, rfl⟩
    have HCR := Lib.hid (chP_rows W' T' l)
    rw [hl] at HP hle hv ⊢
    obtain ⟨N, hN⟩ : ∃ N, countN l = N := ⟨_, rfl⟩
    rw [hN] at HP hle hv HCR
    have HN := Lib.hid hN
    obtain ⟨⟨li, co⟩, hst⟩ : ∃ x, stV W' T' (tk l) N = x := ⟨_, rfl⟩
    rw [hst] at HP HCR
    simp only at HP HCR
    obtain ⟨⟨ra, re⟩, hr⟩ : ∃ x, placeR (W' : Nat) (T' : Nat) l r c = x := ⟨_, rfl⟩
    rw [hr] at hv ⊢
    have HV := Lib.hid hv
    clear hl hN hst hg hW hW2 hT1 hT2 hv hr
    go_enter Tryd.func19, Tryd.ntmps19
    go_upto_region 1 with fail
    go_name_world X hX
    have hR : Blk X w.heap.size 42 [.int .i64 r, .int .i64 c] := by rw [← hX]; exact Blk.new w _ _
    have hb : Below w.heap.size w X := by rw [← hX]; exact al (Below.refl _ _) _
    clear hX
    go_upto_region 4 with (first
      | (go_at_call 26; (with_reducible refine (HG.out _).mono ?_); rintro e w2 ⟨rfl, rfl⟩)
      | (go_at_call 27; (with_reducible refine (HP.out _ (HT.out.below hb (Nat.le_refl _))).mono ?_); rintro e w2 ⟨v, rfl, hown, hb2⟩))
    go_name_world Y hY
    have hR2 : Blk Y w.heap.size 42 [.int .i64 r, .int .i64 c] := by rw [← hY]; exact (hR.below hb2).alloc _
    have hL : Blk Y w2.heap.size 42 [.int .i64 (li : Nat), .int .i64 (co : Nat)] := by rw [← hY]; exact Blk.new w2 _ _
    have hB : Below w.heap.size w Y := by rw [← hY]; exact al (nx hb hb2) _
    have hO : Y.ownsRow X.heap.size 67 7 v N (rowsF N (chC W' T' l)) := by rw [← hY]; exact hown.alloc _
    have hXY : X.heap.size ≤ Y.heap.size := by rw [← hY]; have := hb2.size; rw [World.size_alloc]; omega
    have hXw := hR.lt
    have d0 := hL.cell 0 rfl
    have d1 := hL.cell 1 rfl
    clear hY hR hown
    go_wp2_with (at_builtin; refine wpList_append_own _ rfl _ _ 61 rfl X.heap.size 67 i0 (.agg #[.int .i64 0, .int .i64 0, .int .i32 0, .bool false, .int .i64 0, .int .i64 0, .int .i64 0]) 7 48 Tryd.underlying61 hi hz0 hz1 hz2 rfl (by decide) v _ _ rfl (hO.alloc _) ⟨Y.heap.size, 0, none⟩ 1 1 (chV 0 0 0 false li co 0) rfl (by simp [chV]) (cells_new _ _ _) (chV_one _ _ _ _ _ _ _) (by unfold maxLen; omega) (by omega) (by simp; omega) ?_; intro v' w6 hown' hgrow _; rw [HCR.out] at hown'; obtain ⟨ao, cap, rfl, hcap, ho⟩ := own_open (chP_len W' T' l) hown'; obtain ⟨g, rfl, hgb, hgl, hrow⟩ := ho (Nat.succ_pos _))
    have hne : some w.heap.size ≠ v.ownBlock := fun e => by have := (hO.lt _ e.symm).1; omega
    have hR6 := (hR2.alloc _).kept hgrow hne
    have hB6 : Below w.heap.size w w6 := (al hB _).grown hgrow (by have := hB.size; rw [World.size_alloc]; omega) (fun q e => by have := (hO.lt _ e).1; omega)
    have HROW := Lib.hid hrow
    have HSPT := Lib.hid (chP_spot W' T' l)
    rw [HN.out] at HSPT
    clear hgrow hne hR2 hL hO d0 d1 hown' hrow ho hB
    go_loopw [12] (fun i wr => ∃ m : Nat, i = .int .i64 ((m : Int) - 1) ∧ m ≤ N + 1 ∧ Hid (∀ j, m ≤ j → j < N + 1 → hereV W' T' l r c j = false) ∧ Below w6.heap.size w6 wr) (fun i _ => (intOf i + 1).toNat)
    case atStart => exact ⟨N + 1, by simp, Nat.le_refl _, Lib.hid (fun j a b => by omega), Below.refl _ _⟩
    case round =>
      obtain ⟨m, rfl, hm, hall, hbr⟩ := hrel
      cases m with
      | zero =>
        have ev := HV.out
        rw [findP_top (m := 0) (Nat.zero_le _) (fun j a b => hall.out j a b)] at ev
        injection ev with e1 e2
        subst e1 e2
        go_wp2_with fail
        go_ret2
        exact ⟨rfl, nx hB6 hbr⟩
      | succ k =>
        rw [show (((k + 1 : Nat) : Int) - 1) = (k : Int) by omega]
        have hk : k < N + 1 := by omega
        have k4 := (HROW.out.below (chP_len _ _ _) hbr) k 4 hk (by omega)
        have k5 := (HROW.out.below (chP_len _ _ _) hbr) k 5 hk (by omega)
        rw [(HSPT.out k hk).1] at k4
        rw [(HSPT.out k hk).2] at k5
        have hR7 := hR6.below hbr
        have p0 := hR7.cell 0 rfl
        have p1 := hR7.cell 1 rfl
        have hki : (k : Int) < ((N + 1 : Nat) : Int) := by omega
        have hhere : hereV W' T' l r c k = (decide (((atV W' T' l k).1 : Int) = r) && decide (((atV W' T' l k).2 : Int) ≤ c)) := rfl
        obtain ⟨⟨sl, sc⟩, hsp⟩ : ∃ x, atV W' T' l k = x := ⟨_, rfl⟩
        rw [hsp] at k4 k5 hhere
        simp only at k4 k5 hhere
        by_cases h1 : (sl : Int) = r
        · by_cases h2 : (sc : Int) ≤ c
          · have ev := HV.out
            rw [findP_top (m := k + 1) (by omega) (fun j a b => hall.out j a b)] at ev
            rw [show findP (hereV W' T' l r c) (k + 1) = some k from if_pos (by rw [hhere, decide_eq_true h1, decide_eq_true h2]; rfl)] at ev
            injection ev with e1 e2
            subst e1 e2 h1
            clear hsp hhere
            go_wp2_with fail
            go_quiet (fail)
            go_wp2_with fail
            go_ret2
            exact ⟨rfl, nx hB6 (below_drewN hbr _)⟩
          · have HA := Lib.hid (show hereV W' T' l r c k = false by rw [hhere, decide_eq_false h2, Bool.and_false])
            have h2d : decide ((sc : Int) ≤ c) = false := decide_eq_false h2
            subst h1
            clear hsp hhere
            go_wp2_with fail
            go_quiet (fail)
            go_wp2_with fail
            go_roundw
            case rel =>
              refine ⟨k, rfl, by omega, Lib.hid (fun j a b => ?_), below_drewN hbr _⟩
              by_cases e : j = k
              · rw [e]; exact HA.out
              · exact hall.out j (by omega) b
            case measure => simp [intOf]
        · have HA := Lib.hid (show hereV W' T' l r c k = false by rw [hhere, decide_eq_false h1, Bool.false_and])
          have h1d : ((sl : Int) == r) = false := beq_eq_false_iff_ne.2 h1
          clear hsp hhere
          go_wp2_with fail
          go_quiet (fail)
          go_wp2_with fail
          go_roundw
          case rel =>
            refine ⟨k, rfl, by omega, Lib.hid (fun j a b => ?_), below_drewN hbr _⟩
            by_cases e : j = k
            · rw [e]; exact HA.out
            · exact hall.out j (by omega) b
          case measure => simp [intOf]
end Go.Proofs.YticonolnagcakaaDoor

namespace Go.Proofs.YticonolnagcakaaDoor
open Go.RowKit

theorem eq_spot (a b a' b' : Int) (w : World) :
    (Op.equalIn 10000 42 (.agg #[.int .i64 a, .int .i64 b]) (.agg #[.int .i64 a', .int .i64 b'])).run Tryd.prog w = .ok (decide (a = a' ∧ b = b')) w := by
  have u3 := Tryd.underlying3
  have a3 := Tryd.isAgg3
  have z3 := Tryd.sizeOf3
  have hS : Tryd.prog.underlying 42 = some (.struct (Tryd.prog.fieldsOf 42)) := by kernel_rfl
  have hp : Tryd.prog.stoodInHeld 42 = false := by kernel_rfl
  rw [show (10000 : Nat) = 9999 + 1 from rfl, run_equalIn_agg w 9999 42 _ _ hS hp]
  simp only [Program.fieldsOf, Tryd.underlying42]
  go_simp
  by_cases h1 : a = a' <;> by_cases h2 : b = b' <;> simp [h1, h2]
theorem guard_spot : Tryd.prog.eqGuardType Tryd.prog.depth 42 = false := by kernel_rfl
theorem eq_piece (a b a' b' : Int) (w : World) :
    (Op.equalIn 9999 30 (.agg #[.int .i64 a, .int .i64 b]) (.agg #[.int .i64 a', .int .i64 b'])).run Tryd.prog w = .ok (decide (a = a' ∧ b = b')) w := by
  have u3 := Tryd.underlying3
  have a3 := Tryd.isAgg3
  have z3 := Tryd.sizeOf3
  have hS : Tryd.prog.underlying 30 = some (.struct (Tryd.prog.fieldsOf 30)) := by kernel_rfl
  have hp : Tryd.prog.stoodInHeld 30 = false := by kernel_rfl
  rw [show (9999 : Nat) = 9998 + 1 from rfl, run_equalIn_agg w 9998 30 _ _ hS hp]
  simp only [Program.fieldsOf, Tryd.underlying30]
  go_simp
  by_cases h1 : a = a' <;> by_cases h2 : b = b' <;> simp [h1, h2]
theorem eq_row (a b c d e a' b' c' d' e' : Int) (w : World) :
    (Op.equalIn 10000 32 (.agg #[.int .i64 a, .int .i64 b, .int .i64 c, .int .i64 d, .int .i64 e]) (.agg #[.int .i64 a', .int .i64 b', .int .i64 c', .int .i64 d', .int .i64 e'])).run Tryd.prog w = .ok (decide (a = a' ∧ b = b' ∧ c = c' ∧ d = d' ∧ e = e')) w := by
  have u3 := Tryd.underlying3
  have a3 := Tryd.isAgg3
  have z3 := Tryd.sizeOf3
  have a30 := Tryd.isAgg30
  have z30 := Tryd.sizeOf30
  have hq := fun w => eq_piece c d c' d' w
  have hS : Tryd.prog.underlying 32 = some (.struct (Tryd.prog.fieldsOf 32)) := by kernel_rfl
  have hp : Tryd.prog.stoodInHeld 32 = false := by kernel_rfl
  rw [show (10000 : Nat) = 9999 + 1 from rfl, run_equalIn_agg w 9999 32 _ _ hS hp]
  simp only [Program.fieldsOf, Tryd.underlying32]
  go_simp
  by_cases h1 : a = a' <;> by_cases h2 : b = b' <;> by_cases h3 : c = c' <;> by_cases h4 : d = d' <;> by_cases h5 : e = e' <;> simp [h1, h2, h3, h4, h5]
theorem guard_row : Tryd.prog.eqGuardType Tryd.prog.depth 32 = false := by kernel_rfl
end Go.Proofs.YticonolnagcakaaDoor

namespace Go.Proofs.YticonolnagcakaaDoor
open Go.RowKit

theorem wk_rows (w : World) (hT : Tabs w) : Calls Tryd.prog 9 #[.string ⟨#[97, 98, 99, 100, 101]⟩, .int .i64 2, .int .i64 8] w fun e w' =>
    ∃ g cap, e = .returned (.tuple #[.slice (some ⟨g, 0, none⟩) 3 cap, .int .i64 0]) ∧ (w'.cell? ⟨g, 10, none⟩ = some (.int .i64 4) ∧ w'.cell? ⟨g, 11, none⟩ = some (.int .i64 5) ∧ w'.cell? ⟨g, 12, none⟩ = some (.int .i64 4) ∧ w'.cell? ⟨g, 13, none⟩ = some (.int .i64 5) ∧ w'.cell? ⟨g, 14, none⟩ = some (.int .i64 1)) ∧ Below w.heap.size w w' := by
  refine (vrows_any 2 8 ⟨#[97, 98, 99, 100, 101]⟩ (by decide) w hT).mono ?_
  rintro e w' ⟨v, rfl, ho, hb⟩
  have hv : rowsR 2 8 (bs ⟨#[97, 98, 99, 100, 101]⟩) = ([⟨0, 2, 0, 2, 2⟩, ⟨2, 4, 2, 4, 2⟩, ⟨4, 5, 4, 5, 1⟩], 0) := by kernel_rfl
  rw [hv] at ho ⊢
  replace ho : w'.ownsRow w.heap.size 32 5 v 3 ([⟨0, 2, 0, 2, 2⟩, ⟨2, 4, 2, 4, 2⟩, ⟨4, 5, 4, 5, 1⟩].flatMap rowC) := ho
  rcases ho.2 with ⟨_, h0⟩ | ⟨g, cap, cur, rfl, _⟩
  · cases h0
  · exact ⟨g, cap, rfl, ⟨ho.cellAt 10 (by decide), ho.cellAt 11 (by decide), ho.cellAt 12 (by decide), ho.cellAt 13 (by decide), ho.cellAt 14 (by decide)⟩, hb⟩
theorem wk_shown (w : World) (hT : Tabs w) : Calls Tryd.prog 12 #[.string ⟨#[97, 9, 98]⟩, .int .i64 9, .int .i64 4] w fun e w' =>
    ∃ g cap, e = .returned (.tuple #[.slice (some ⟨g, 0, none⟩) 1 cap, .int .i64 0]) ∧ StrAt w' g 1 (fun _ => ⟨#[97, 32, 32, 32, 98]⟩) ∧ Below w.heap.size w w' := by
  refine (vshown_any 9 4 ⟨#[97, 9, 98]⟩ (by decide) w hT).mono ?_
  rintro e w' ⟨v, rfl, ho, hb⟩
  have hv : shownR 9 4 (bs ⟨#[97, 9, 98]⟩) = ([[97, 32, 32, 32, 98]], 0) := by kernel_rfl
  rw [hv] at ho ⊢
  replace ho : w'.ownsRow w.heap.size 9 1 v 1 (strV [[97, 32, 32, 32, 98]]) := ho
  rcases ho.2 with ⟨_, h0⟩ | ⟨g, cap, cur, rfl, _⟩
  · cases h0
  · refine ⟨g, cap, rfl, fun k hk => ?_, hb⟩
    obtain rfl : k = 0 := by omega
    exact ho.cellAt 0 (by decide)
theorem wk_where (w : World) (hT : Tabs w) : Calls Tryd.prog 17 #[.string ⟨#[97, 98, 99, 100, 101]⟩, .int .i64 2, .int .i64 8, .int .i64 4] w fun e w' =>
    e = .returned (.tuple #[.agg #[.int .i64 2, .int .i64 0], .int .i64 0]) ∧ Below w.heap.size w w' := by
  refine (vwhere_any 2 8 ⟨#[97, 98, 99, 100, 101]⟩ (by decide) 4 w hT).mono ?_
  rintro e w' ⟨rfl, hb⟩
  have hv : whereV 2 8 (bs ⟨#[97, 98, 99, 100, 101]⟩) 4 = ((2, 0), 0) := by kernel_rfl
  rw [hv]
  exact ⟨rfl, hb⟩
theorem wk_place (w : World) (hT : Tabs w) : Calls Tryd.prog 19 #[.string ⟨#[97, 98, 99, 100, 101]⟩, .int .i64 2, .int .i64 8, .agg #[.int .i64 1, .int .i64 1]] w fun e w' =>
    e = .returned (.tuple #[.int .i64 3, .int .i64 0]) ∧ Below w.heap.size w w' := by
  refine (vplace_any 2 8 ⟨#[97, 98, 99, 100, 101]⟩ (by decide) 1 1 w hT).mono ?_
  rintro e w' ⟨rfl, hb⟩
  have hv : placeR 2 8 (bs ⟨#[97, 98, 99, 100, 101]⟩) 1 1 = (3, 0) := by kernel_rfl
  rw [hv]
  exact ⟨rfl, hb⟩

set_option maxRecDepth 100000 in
set_option maxHeartbeats 4000000 in
theorem vworks_any (w : World) (hT : Tabs w) : Calls Tryd.prog 16 #[] w fun e w' => e = .returned (.bool true) ∧ Below w.heap.size w w' := by
  have HT := Lib.hid hT
  have H1 := Lib.hid (fun w hT => wk_rows w hT)
  have H2 := Lib.hid (fun w hT => wk_shown w hT)
  have H3 := Lib.hid (fun w hT => wk_where w hT)
  have H4 := Lib.hid (fun w hT => wk_place w hT)
  clear hT
  have HNEW : Hid (∀ W : World, StrAt (W.alloc (.cells #[.string ⟨#[97, 32, 32, 32, 98]⟩] 9)) W.heap.size 1 (fun _ => ⟨#[97, 32, 32, 32, 98]⟩)) := by
    refine Lib.hid (fun W k hk => ?_)
    obtain rfl : k = 0 := by omega
    exact (Blk.new W 9 [.string ⟨#[97, 32, 32, 32, 98]⟩]).cell 0 rfl
  have hone : 1 ≤ 140737488351232 := by decide
  have e1 := fun w => eq_spot 2 0 2 0 w
  have e2 := fun w => eq_row 4 5 4 5 1 4 5 4 5 1 w
  have g1 := guard_spot
  have g2 := guard_row
  go_enter Tryd.func16, Tryd.ntmps16
  go_wp2_with (first
    | (go_at_call 9; (with_reducible refine (H1.out _ HT.out).mono ?_); rintro e w1 ⟨g, cap, rfl, hr, hb1⟩; have HR := Lib.hid hr; clear hr)
    | (go_at_call 12; (with_reducible refine (H2.out _ (HT.out.below hb1 (Nat.le_refl _))).mono ?_); rintro e w2 ⟨gs, cs, rfl, hs, hb2⟩; have hb12 := nx hb1 hb2; have HS := Lib.hid hs; clear hs)
    | (go_at_call 17; (with_reducible refine (H3.out _ (HT.out.below hb12 (Nat.le_refl _))).mono ?_); rintro e w3 ⟨rfl, hb3⟩; have hb13 := al (nx hb12 hb3) (.cells #[.int .i64 2, .int .i64 0] 42); have K3 := Lib.hid (Blk.new w3 42 [.int .i64 2, .int .i64 0]); have b3 := al (Below.refl _ w3) (.cells #[.int .i64 2, .int .i64 0] 42))
    | (go_at_call 19; (with_reducible refine (H4.out _ (HT.out.below hb13 (Nat.le_refl _))).mono ?_); rintro e w4 ⟨rfl, hb4⟩; have hb14 := nx hb13 hb4; have hR4 := nx (nx (nx (nx (Below.refl _ w1) hb2) hb3) b3) hb4; obtain ⟨r0, r1, r2, r3, r4⟩ := HR.out; have r0 := cellKeep r0 hR4; have r1 := cellKeep r1 hR4; have r2 := cellKeep r2 hR4; have r3 := cellKeep r3 hR4; have r4 := cellKeep r4 hR4; have K4 := K3.out.below hb4; have hS4 := HS.out.below (nx (nx (nx (Below.refl _ w2) hb3) b3) hb4))
    | (go_at_call 14; (with_reducible refine (eqtexts_any gs w4.heap.size cs 1 1 hone (fun _ => ⟨#[97, 32, 32, 32, 98]⟩) _ (hS4.below (al (Below.refl _ _) _)) (HNEW.out w4)).mono ?_); rintro e w5 ⟨rfl, hb5⟩; have hb15 := nx (al hb14 (.cells #[.string ⟨#[97, 32, 32, 32, 98]⟩] 9)) hb5; have K5 := (K4.alloc (.cells #[.string ⟨#[97, 32, 32, 32, 98]⟩] 9)).below hb5; have k0 := K5.cell 0 rfl; have k1 := K5.cell 1 rfl))
  go_ret
  exact ⟨rfl, hb15⟩
end Go.Proofs.YticonolnagcakaaDoor

namespace Go.Proofs.YticonolnagcakaaDoor
open Go.RowKit

theorem tmod_small (x m : Int) (hm : 0 < m) : -m < x.tmod m ∧ x.tmod m < m := ⟨Int.lt_tmod_of_pos x hm, Int.tmod_lt_of_pos x hm⟩
/-- what stands while it is worked out -/
def RightS (w : World) (a b : Int) (X : World) : Prop := Blk X w.heap.size 23 [.int .i64 a, .int .i64 b] ∧ Blk X (w.heap.size + 1) 23 [.int .i64 0, .int .i64 0] ∧ Below w.heap.size w X
theorem RightS.set0 {w X Y : World} {a b c : Int} (h : RightS w a b X) (hX : X.setCell ⟨w.heap.size, 0, none⟩ (.int .i64 c) = Y) : RightS w c b Y := by
  obtain ⟨h1, h2, h3⟩ := h
  obtain ⟨k, hg⟩ := stored1 h1 hX
  exact ⟨k, h2.kept hg (by simp), h3.grown hg h3.size (fun q e => by injection e with e; omega)⟩
theorem RightS.set1 {w X Y : World} {a b c : Int} (h : RightS w a b X) (hX : X.setCell ⟨w.heap.size, 1, none⟩ (.int .i64 c) = Y) : RightS w a c Y := by
  obtain ⟨h1, h2, h3⟩ := h
  obtain ⟨k, hg⟩ := stored1 h1 hX
  exact ⟨k, h2.kept hg (by simp), h3.grown hg h3.size (fun q e => by injection e with e; omega)⟩
set_option maxRecDepth 100000 in
set_option maxHeartbeats 2000000 in
theorem lright_any (W T : Int) (w : World) : Calls Tryd.prog 21 #[.agg #[.int .i64 W, .int .i64 T]] w fun e w' => ∃ W' : Nat, 1 ≤ W' ∧ W' ≤ 1024 ∧ ∃ T' : Nat, 1 ≤ T' ∧ T' ≤ 16 ∧ e = .returned (.agg #[.int .i64 (W' : Nat), .int .i64 (T' : Nat)]) ∧ Below w.heap.size w w' := by
  obtain ⟨m, hm⟩ : ∃ m, W.tmod 1024 = m := ⟨_, rfl⟩
  obtain ⟨n, hn⟩ : ∃ n, T.tmod 16 = n := ⟨_, rfl⟩
  have hmb := tmod_small W 1024 (by decide)
  have hnb := tmod_small T 16 (by decide)
  rw [hm] at hmb
  rw [hn] at hnb
  go_enter Tryd.func21, Tryd.ntmps21
  go_upto_region 1 with fail
  go_name_world X hX
  obtain ⟨hR, hZ, hb, -⟩ := two_boxes hX
  have hS0 : RightS w W T X := ⟨hR, hZ, hb⟩
  have hS := hS0
  clear hX hR hZ hb
  have r0 := hS.1.cell 0 rfl
  have r1 := hS.1.cell 1 rfl
  have f0 := hS.1.frozen 0
  have f1 := hS.1.frozen 1
  go_upto_region 2 with fail
  go_name_world X2 hX2
  have hS2 := hS.set0 hX2
  clear hX2 hS0 hS r0 r1 f0 f1
  have hS := hS2
  have r0 := hS.1.cell 0 rfl
  have r1 := hS.1.cell 1 rfl
  have f0 := hS.1.frozen 0
  have f1 := hS.1.frozen 1
  go_upto_region 3 with fail
  go_name_world X3 hX3
  have hS3 := hS.set1 hX3
  clear hX3 hS2 hS r0 r1 f0 f1 hm hn
  have hS := hS3
  have r0 := hS.1.cell 0 rfl
  have r1 := hS.1.cell 1 rfl
  have f0 := hS.1.frozen 0
  have f1 := hS.1.frozen 1
  by_cases h1 : m < 0
  · go_upto_region 5 with fail
    go_name_world X5 hX5
    have hS5 := hS.set0 hX5
    clear hX5 hS3 hS r0 r1 f0 f1
    have hS := hS5
    obtain ⟨M, hM⟩ : ∃ M, -m = M := ⟨_, rfl⟩
    rw [hM] at hS5 hS
    have r0 := hS.1.cell 0 rfl
    have r1 := hS.1.cell 1 rfl
    have f0 := hS.1.frozen 0
    have f1 := hS.1.frozen 1
    by_cases h2 : n < 0
    · go_upto_region 7 with fail
      go_name_world X6 hX6
      have hS6 := hS.set1 hX6
      clear hX6 hS5 hS r0 r1 f0 f1
      have hS := hS6
      obtain ⟨N, hN⟩ : ∃ N, -n = N := ⟨_, rfl⟩
      rw [hN] at hS6 hS
      have r0 := hS.1.cell 0 rfl
      have r1 := hS.1.cell 1 rfl
      have f0 := hS.1.frozen 0
      have f1 := hS.1.frozen 1
      go_upto_region 8 with fail
      go_name_world X7 hX7
      have hS7 := hS.set0 hX7
      clear hX7 hS r0 r1 f0 f1
      have hS := hS7
      have r0 := hS.1.cell 0 rfl
      have r1 := hS.1.cell 1 rfl
      have f0 := hS.1.frozen 0
      have f1 := hS.1.frozen 1
      go_upto_region 9 with fail
      go_name_world X8 hX8
      have hS8 := hS.set1 hX8
      clear hX8 hS7 hS r0 r1 f0 f1
      have hS := hS8
      have r0 := hS.1.cell 0 rfl
      have r1 := hS.1.cell 1 rfl
      have f0 := hS.1.frozen 0
      have f1 := hS.1.frozen 1
      have z0 := hS8.2.1.frozen 0
      have z1 := hS8.2.1.frozen 1
      have y0 := hS8.2.1.cell 0 rfl
      have y1 := hS8.2.1.cell 1 rfl
      go_wp2_with fail
      obtain ⟨hF, hgF⟩ := stored2 hS8.2.1 (i := 0) (j := 1) (a := .int .i64 (M + 1)) (b := .int .i64 (N + 1)) rfl
      have q0 := hF.cell 0 rfl
      have q1 := hF.cell 1 rfl
      refine bodyPost_ret (v := .agg #[.int .i64 (M + 1), .int .i64 (N + 1)]) (by simp [results, Tryd.results21, go_sem, q0, q1]) rfl ⟨(M + 1).toNat, by omega, by omega, (N + 1).toNat, by omega, by omega, ?_, hS8.2.2.grown hgF hS8.2.2.size (fun q e => by injection e with e; omega)⟩
      rw [show (((M + 1).toNat : Nat) : Int) = M + 1 by omega, show (((N + 1).toNat : Nat) : Int) = N + 1 by omega]
    · obtain ⟨N, hN⟩ : ∃ N, N = n := ⟨_, rfl⟩
      subst hN
      go_upto_region 8 with fail
      go_name_world X7 hX7
      have hS7 := hS.set0 hX7
      clear hX7 hS r0 r1 f0 f1
      have hS := hS7
      have r0 := hS.1.cell 0 rfl
      have r1 := hS.1.cell 1 rfl
      have f0 := hS.1.frozen 0
      have f1 := hS.1.frozen 1
      go_upto_region 9 with fail
      go_name_world X8 hX8
      have hS8 := hS.set1 hX8
      clear hX8 hS7 hS r0 r1 f0 f1
      have hS := hS8
      have r0 := hS.1.cell 0 rfl
      have r1 := hS.1.cell 1 rfl
      have f0 := hS.1.frozen 0
      have f1 := hS.1.frozen 1
      have z0 := hS8.2.1.frozen 0
      have z1 := hS8.2.1.frozen 1
      have y0 := hS8.2.1.cell 0 rfl
      have y1 := hS8.2.1.cell 1 rfl
      go_wp2_with fail
      obtain ⟨hF, hgF⟩ := stored2 hS8.2.1 (i := 0) (j := 1) (a := .int .i64 (M + 1)) (b := .int .i64 (N + 1)) rfl
      have q0 := hF.cell 0 rfl
      have q1 := hF.cell 1 rfl
      refine bodyPost_ret (v := .agg #[.int .i64 (M + 1), .int .i64 (N + 1)]) (by simp [results, Tryd.results21, go_sem, q0, q1]) rfl ⟨(M + 1).toNat, by omega, by omega, (N + 1).toNat, by omega, by omega, ?_, hS8.2.2.grown hgF hS8.2.2.size (fun q e => by injection e with e; omega)⟩
      rw [show (((M + 1).toNat : Nat) : Int) = M + 1 by omega, show (((N + 1).toNat : Nat) : Int) = N + 1 by omega]
  · obtain ⟨M, hM⟩ : ∃ M, M = m := ⟨_, rfl⟩
    subst hM
    by_cases h2 : n < 0
    · go_upto_region 7 with fail
      go_name_world X6 hX6
      have hS6 := hS.set1 hX6
      clear hX6 hS3 hS r0 r1 f0 f1
      have hS := hS6
      obtain ⟨N, hN⟩ : ∃ N, -n = N := ⟨_, rfl⟩
      rw [hN] at hS6 hS
      have r0 := hS.1.cell 0 rfl
      have r1 := hS.1.cell 1 rfl
      have f0 := hS.1.frozen 0
      have f1 := hS.1.frozen 1
      go_upto_region 8 with fail
      go_name_world X7 hX7
      have hS7 := hS.set0 hX7
      clear hX7 hS r0 r1 f0 f1
      have hS := hS7
      have r0 := hS.1.cell 0 rfl
      have r1 := hS.1.cell 1 rfl
      have f0 := hS.1.frozen 0
      have f1 := hS.1.frozen 1
      go_upto_region 9 with fail
      go_name_world X8 hX8
      have hS8 := hS.set1 hX8
      clear hX8 hS7 hS r0 r1 f0 f1
      have hS := hS8
      have r0 := hS.1.cell 0 rfl
      have r1 := hS.1.cell 1 rfl
      have f0 := hS.1.frozen 0
      have f1 := hS.1.frozen 1
      have z0 := hS8.2.1.frozen 0
      have z1 := hS8.2.1.frozen 1
      have y0 := hS8.2.1.cell 0 rfl
      have y1 := hS8.2.1.cell 1 rfl
      go_wp2_with fail
      obtain ⟨hF, hgF⟩ := stored2 hS8.2.1 (i := 0) (j := 1) (a := .int .i64 (M + 1)) (b := .int .i64 (N + 1)) rfl
      have q0 := hF.cell 0 rfl
      have q1 := hF.cell 1 rfl
      refine bodyPost_ret (v := .agg #[.int .i64 (M + 1), .int .i64 (N + 1)]) (by simp [results, Tryd.results21, go_sem, q0, q1]) rfl ⟨(M + 1).toNat, by omega, by omega, (N + 1).toNat, by omega, by omega, ?_, hS8.2.2.grown hgF hS8.2.2.size (fun q e => by injection e with e; omega)⟩
      rw [show (((M + 1).toNat : Nat) : Int) = M + 1 by omega, show (((N + 1).toNat : Nat) : Int) = N + 1 by omega]
    · obtain ⟨N, hN⟩ : ∃ N, N = n := ⟨_, rfl⟩
      subst hN
      go_upto_region 8 with fail
      go_name_world X7 hX7
      have hS7 := hS.set0 hX7
      clear hX7 hS r0 r1 f0 f1
      have hS := hS7
      have r0 := hS.1.cell 0 rfl
      have r1 := hS.1.cell 1 rfl
      have f0 := hS.1.frozen 0
      have f1 := hS.1.frozen 1
      go_upto_region 9 with fail
      go_name_world X8 hX8
      have hS8 := hS.set1 hX8
      clear hX8 hS7 hS r0 r1 f0 f1
      have hS := hS8
      have r0 := hS.1.cell 0 rfl
      have r1 := hS.1.cell 1 rfl
      have f0 := hS.1.frozen 0
      have f1 := hS.1.frozen 1
      have z0 := hS8.2.1.frozen 0
      have z1 := hS8.2.1.frozen 1
      have y0 := hS8.2.1.cell 0 rfl
      have y1 := hS8.2.1.cell 1 rfl
      go_wp2_with fail
      obtain ⟨hF, hgF⟩ := stored2 hS8.2.1 (i := 0) (j := 1) (a := .int .i64 (M + 1)) (b := .int .i64 (N + 1)) rfl
      have q0 := hF.cell 0 rfl
      have q1 := hF.cell 1 rfl
      refine bodyPost_ret (v := .agg #[.int .i64 (M + 1), .int .i64 (N + 1)]) (by simp [results, Tryd.results21, go_sem, q0, q1]) rfl ⟨(M + 1).toNat, by omega, by omega, (N + 1).toNat, by omega, by omega, ?_, hS8.2.2.grown hgF hS8.2.2.size (fun q e => by injection e with e; omega)⟩
      rw [show (((M + 1).toNat : Nat) : Int) = M + 1 by omega, show (((N + 1).toNat : Nat) : Int) = N + 1 by omega]
end Go.Proofs.YticonolnagcakaaDoor

namespace Go.Proofs.YticonolnagcakaaDoor
open Go.RowKit

theorem row_of (W T : Nat) (l : Bs) (c : Nat) (hc : c ≤ countN l) : ∃ r, (rowsL W T l (countN l))[(atV W T l c).1]? = some r ∧ r.fr ≤ c ∧ c ≤ r.tx ∧ (c = r.tx → c = countN l) ∧ (atV W T l c).2 ≤ r.co ∧ (c = r.fr → (atV W T l c).2 = 0) := by
  by_cases h : c < countN l
  · obtain ⟨h1, h2, h3, h4⟩ := at_row W T l c h
    obtain ⟨_, r, k1, k2, k3, k4⟩ := rows_keep W T l (c + 1) (countN l - (c + 1))
    rw [show c + 1 + (countN l - (c + 1)) = countN l by omega] at k1
    have h5 := (cur_row W T l (c + 1)).1
    refine ⟨r, by rw [h1]; exact k1, by omega, by omega, fun e => by omega, by omega, fun e => h4 (by omega)⟩
  · have e : c = countN l := by omega
    subst e
    have ha : atV W T l (countN l) = stV W T (tk l) (countN l) := by unfold atV; rw [if_neg (Nat.lt_irrefl _)]
    have hc := cur_row W T l (countN l)
    rw [ha]
    refine ⟨(rowsV W T l (countN l)).2, ?_, hc.2.2.2.2.1, by rw [hc.1]; exact Nat.le_refl _, fun _ => rfl, by rw [hc.2.2.2.1]; exact Nat.le_refl _, fun e => ?_⟩
    · rw [← rows_len]
      exact ap_last _ _
    · have h0 : countN l = 0 := by
        rcases Nat.eq_zero_or_pos (countN l) with h0 | h0
        · exact h0
        · have := hc.2.2.2.2.2 h0
          omega
      rw [h0]
      rfl
/-- the place ahead -/
def wasV (W T : Nat) (l : Bs) (c : Nat) : Nat × Nat := if c = 0 then (0, 0) else atV W T l (c - 1)
theorem was_next (W T : Nat) (l : Bs) (c : Nat) (hc : c ≤ countN l) : ((atV W T l c).1 = (wasV W T l c).1 ∧ (wasV W T l c).2 ≤ (atV W T l c).2) ∨ (atV W T l c).1 = (wasV W T l c).1 + 1 := by
  unfold wasV
  by_cases h : c = 0
  · subst h
    rw [if_pos rfl]
    left
    have h0 : (atV W T l 0) = (0, 0) := by
      unfold atV
      split
      · unfold spV
        rcases put_cases W T (stV W T (tk l) 0) ((tk l)[0]?.getD (0, 0)) with ⟨h1, _⟩ | ⟨_, _, _, h2, _⟩
        · rw [h1]; rfl
        · exact absurd h2 (Nat.lt_irrefl _)
      · rfl
    rw [h0]
    exact ⟨rfl, Nat.le_refl _⟩
  · rw [if_neg h]
    have hn := at_next W T l (c - 1) (by omega)
    rw [show c - 1 + 1 = c by omega] at hn
    obtain ⟨h1, h2⟩ := hn
    unfold leS at h1
    omega
theorem at_lt_rows (W T : Nat) (l : Bs) (c : Nat) (hc : c ≤ countN l) : (atV W T l c).1 < (rowsV W T l (countN l)).1.length + 1 := by
  have := at_le_row W T l c hc
  omega

/-- the rows as cells -/
def rowFn (L : List RowV) (i : Nat) : List Value := rowC (L[i]?.getD rowZ)
theorem rowFn_len (L : List RowV) (i : Nat) : (rowFn L i).length = 5 := rfl
theorem flat_rows (L : List RowV) : L.flatMap rowC = rowsF L.length (rowFn L) := by
  have h : L = (List.range L.length).map fun i => L[i]?.getD rowZ := by
    apply List.ext_getElem?
    intro i
    rw [List.getElem?_map]
    by_cases hi : i < L.length
    · rw [List.getElem?_range hi, List.getElem?_eq_getElem hi, Option.map_some, List.getElem?_eq_getElem hi]
      rfl
    · rw [List.getElem?_eq_none (by omega), List.getElem?_eq_none (by simp; omega)]
      rfl
  conv => lhs; rw [h]
  unfold rowsF rowFn
  rw [List.flatMap_map]
theorem vrows_at (W T : Nat) (hW : 1 ≤ W) (hW2 : W ≤ 1024) (hT1 : 1 ≤ T) (hT2 : T ≤ 16) (s : ByteArray) (hs : s.size ≤ 1099511627776) (w : World) (hT : Tabs w) :
    Calls Tryd.prog 9 #[.string s, .int .i64 (W : Nat), .int .i64 (T : Nat)] w fun e w' => ∃ G cap, e = .returned (.tuple #[.slice (some ⟨G, 0, none⟩) ((rowsV W T (bs s) (countN (bs s))).1.length + 1) cap, .int .i64 0]) ∧
      RowAt w' G 5 ((rowsV W T (bs s) (countN (bs s))).1.length + 1) (rowFn (rowsL W T (bs s) (countN (bs s)))) ∧ w.heap.size ≤ G ∧ G < w'.heap.size ∧ Below w.heap.size w w' := by
  refine (vrows_any (W : Nat) (T : Nat) s hs w hT).mono ?_
  rintro e w' ⟨v, rfl, ho, hb⟩
  have hg : goodV (W : Nat) (T : Nat) = true := decide_eq_true (by omega)
  have hv : rowsR (W : Nat) (T : Nat) (bs s) = (rowsL W T (bs s) (countN (bs s)), 0) := if_neg (by rw [hg]; simp)
  have hl : (rowsL W T (bs s) (countN (bs s))).length = (rowsV W T (bs s) (countN (bs s))).1.length + 1 := by unfold rowsL; rw [List.length_append, List.length_singleton]
  rw [hv] at ho ⊢
  simp only at ho
  rw [flat_rows, hl] at ho
  obtain ⟨ao, cap, rfl, _, hx⟩ := own_open (rowFn_len _) ho
  obtain ⟨G, rfl, h1, h2, h3⟩ := hx (Nat.succ_pos _)
  exact ⟨G, cap, rfl, h3, h1, h2, hb⟩
theorem goodV_nat {W T : Nat} (hW : 1 ≤ W) (hW2 : W ≤ 1024) (hT1 : 1 ≤ T) (hT2 : T ≤ 16) : goodV (W : Nat) (T : Nat) = true := decide_eq_true (by omega)
theorem whereV_in {W T : Nat} (hg : goodV (W : Nat) (T : Nat) = true) (l : Bs) (c : Nat) (hc : c ≤ countN l) : whereV (W : Nat) (T : Nat) l (c : Nat) = (atV W T l c, 0) := by
  unfold whereV
  rw [if_neg (by rw [hg]; simp), if_neg (by omega)]
  rfl
theorem whereV_out {W T : Nat} (hg : goodV (W : Nat) (T : Nat) = true) (l : Bs) (c : Int) (hc : (countN l : Int) < c) : whereV (W : Nat) (T : Nat) l c = ((0, 0), 6) := by
  unfold whereV
  rw [if_neg (by rw [hg]; simp), if_pos (.inr hc)]
theorem placeR_back {W T : Nat} (hg : goodV (W : Nat) (T : Nat) = true) (l : Bs) (c : Nat) (hc : c ≤ countN l) : ∃ i : Nat, placeR (W : Nat) (T : Nat) l (atV W T l c).1 (atV W T l c).2 = ((i : Int), 0) ∧ c ≤ i ∧ i ≤ countN l ∧ atV W T l i = atV W T l c := by
  obtain ⟨i, h1, h2, h3, h4⟩ := place_back W T l c hc
  refine ⟨i, ?_, h2, h3, h4⟩
  unfold placeR
  rw [if_neg (by rw [hg]; simp)]
  show placeO (placeV W T l _ _) = _
  rw [h1]
  rfl
theorem placeR_out {W T : Nat} (hg : goodV (W : Nat) (T : Nat) = true) (l : Bs) (c : Int) : placeR (W : Nat) (T : Nat) l (((rowsV W T l (countN l)).1.length + 1 : Nat) : Int) c = (0, 6) := by
  unfold placeR
  rw [if_neg (by rw [hg]; simp)]
  show placeO (placeV W T l _ _) = _
  rw [place_out]
  rfl
theorem vwhere_in {W T : Nat} (hg : goodV (W : Nat) (T : Nat) = true) (s : ByteArray) (hs : s.size ≤ 1099511627776) (c : Nat) (hc : c ≤ countN (bs s)) (w : World) (hT : Tabs w) :
    Calls Tryd.prog 17 #[.string s, .int .i64 (W : Nat), .int .i64 (T : Nat), .int .i64 (c : Nat)] w fun e w' => e = .returned (.tuple #[.agg #[.int .i64 ((atV W T (bs s) c).1 : Nat), .int .i64 ((atV W T (bs s) c).2 : Nat)], .int .i64 0]) ∧ Below w.heap.size w w' := by
  have h := vwhere_any (W : Nat) (T : Nat) s hs (c : Nat) w hT
  rw [whereV_in hg (bs s) c hc] at h
  exact h
theorem vwhere_out {W T : Nat} (hg : goodV (W : Nat) (T : Nat) = true) (s : ByteArray) (hs : s.size ≤ 1099511627776) (c : Int) (hc : (countN (bs s) : Int) < c) (w : World) (hT : Tabs w) :
    Calls Tryd.prog 17 #[.string s, .int .i64 (W : Nat), .int .i64 (T : Nat), .int .i64 c] w fun e w' => e = .returned (.tuple #[.agg #[.int .i64 0, .int .i64 0], .int .i64 6]) ∧ Below w.heap.size w w' := by
  have h := vwhere_any (W : Nat) (T : Nat) s hs c w hT
  rw [whereV_out hg (bs s) c hc] at h
  exact h
theorem vplace_in {W T : Nat} (hg : goodV (W : Nat) (T : Nat) = true) (s : ByteArray) (hs : s.size ≤ 1099511627776) (c : Nat) (hc : c ≤ countN (bs s)) : ∃ i : Nat, c ≤ i ∧ i ≤ countN (bs s) ∧ atV W T (bs s) i = atV W T (bs s) c ∧ ∀ (w : World), Tabs w →
    Calls Tryd.prog 19 #[.string s, .int .i64 (W : Nat), .int .i64 (T : Nat), .agg #[.int .i64 ((atV W T (bs s) c).1 : Nat), .int .i64 ((atV W T (bs s) c).2 : Nat)]] w fun e w' => e = .returned (.tuple #[.int .i64 (i : Nat), .int .i64 0]) ∧ Below w.heap.size w w' := by
  obtain ⟨i, h1, h2, h3, h4⟩ := placeR_back hg (bs s) c hc
  refine ⟨i, h2, h3, h4, fun w hT => ?_⟩
  have h := vplace_any (W : Nat) (T : Nat) s hs ((atV W T (bs s) c).1 : Nat) ((atV W T (bs s) c).2 : Nat) w hT
  rw [h1] at h
  exact h
theorem vplace_out {W T : Nat} (hg : goodV (W : Nat) (T : Nat) = true) (s : ByteArray) (hs : s.size ≤ 1099511627776) (m : Nat) (hm : (rowsV W T (bs s) (countN (bs s))).1.length = m) (w : World) (hT : Tabs w) :
    Calls Tryd.prog 19 #[.string s, .int .i64 (W : Nat), .int .i64 (T : Nat), .agg #[.int .i64 ((m : Int) + 1), .int .i64 0]] w fun e w' => e = .returned (.tuple #[.int .i64 0, .int .i64 6]) ∧ Below w.heap.size w w' := by
  have h := vplace_any (W : Nat) (T : Nat) s hs (((rowsV W T (bs s) (countN (bs s))).1.length + 1 : Nat) : Int) 0 w hT
  rw [placeR_out hg (bs s) 0, hm] at h
  exact h
end Go.Proofs.YticonolnagcakaaDoor

namespace Go.Proofs.YticonolnagcakaaDoor
open Go.RowKit

theorem width_bad : widthN 65533 = 1 := by decide +kernel
theorem tab_stop (n T : Nat) (hT : 0 < T) : (n / T + 1) * T = n + (T - n % T) := by
  have h1 := Nat.div_add_mod n T
  have h2 := Nat.mod_lt n hT
  rw [Nat.add_mul, Nat.one_mul, Nat.mul_comm]
  omega
theorem takes_col (W T : Nat) (hT : 0 < T) (l : Bs) (k : Nat) (hk : k < countN l) (h : colStep T 0 (colTo l T 0 k) (((tk l)[k]?.getD (0, 0)).1 : Nat) ≤ W) :
    colTo l T 0 k + takesV W T ((tk l)[k]?.getD (0, 0)) (colTo l T 0 k) = colStep T 0 (colTo l T 0 k) (((tk l)[k]?.getD (0, 0)).1 : Nat) := by
  have hm : rightR (((tk l)[k]?.getD (0, 0)).1 : Nat) ((tk l)[k]?.getD (0, 0)).2 = true ∨ (tk l)[k]?.getD (0, 0) = (65533, 1) := by
    have hlt := atN_lt l (show k < countN l from hk) (Nat.le_refl _)
    rw [atN_full] at hlt
    have hg := (cut_at l k (Nat.le_of_lt hk)).get hlt
    rw [List.length_take, Nat.min_eq_left (show k ≤ (tk l).length from Nat.le_of_lt hk)] at hg
    rw [hg]
    exact dec_right_or _
  obtain ⟨n, hn⟩ : ∃ n, colTo l T 0 k = n := ⟨_, rfl⟩
  rw [hn] at h ⊢
  unfold takesV
  unfold colStep at h ⊢
  rcases hm with hr | hr
  · obtain ⟨⟨r, m⟩, hc⟩ : ∃ c, (tk l)[k]?.getD (0, 0) = c := ⟨_, rfl⟩
    rw [hc] at hr h ⊢
    simp only at hr h ⊢
    rw [if_neg (by rw [hr]; simp)]
    by_cases h9 : r = 9
    · subst h9
      have e9 : (((9 : Nat) : Int) = 9) := rfl
      rw [if_pos rfl, if_pos e9]
      rw [if_pos e9] at h
      have := tab_stop n T hT
      have h2 := Nat.mod_lt n hT
      rw [Nat.zero_add] at h ⊢
      omega
    · have e9 : ¬ ((r : Int) = 9) := by omega
      rw [if_neg h9, if_neg e9]
  · rw [hr]
    rw [if_pos (by rfl), if_neg (by decide)]
    rw [show ((65533 : Nat) : Int) = 65533 from rfl, width_bad]
theorem col_mono (l : Bs) (T : Nat) : ∀ (d k : Nat), colTo l T 0 k ≤ colTo l T 0 (k + d)
  | 0, _ => Nat.le_refl _
  | d + 1, k => by
    refine Nat.le_trans (col_mono l T d k) ?_
    rw [← Nat.add_assoc]
    show _ ≤ colStep T 0 (colTo l T 0 (k + d)) _
    unfold colStep
    split <;> omega
theorem one_row (W T : Nat) (hT : 0 < T) (l : Bs) (h : colTo l T 0 (countN l) ≤ W) : ∀ k, k ≤ countN l → stV W T (tk l) k = (0, colTo l T 0 k)
  | 0, _ => rfl
  | k + 1, hk => by
    have ih := one_row W T hT l h k (by omega)
    have hle : colTo l T 0 (k + 1) ≤ W := by
      have := col_mono l T (countN l - (k + 1)) (k + 1)
      rw [show k + 1 + (countN l - (k + 1)) = countN l by omega] at this
      omega
    have e1 : colTo l T 0 (k + 1) = colStep T 0 (colTo l T 0 k) (((tk l)[k]?.getD (0, 0)).1 : Nat) := rfl
    rw [e1] at hle
    have ht := takes_col W T hT l k (by omega) hle
    rw [st_succ, e1, ← ht]
    unfold spV tkV
    rw [ih]
    rcases put_cases W T (0, colTo l T 0 k) ((tk l)[k]?.getD (0, 0)) with ⟨h1, h2, _⟩ | ⟨_, _, _, _, h3⟩
    · rw [h1, h2]
    · exfalso
      have h3' : W < colTo l T 0 k + takesV W T ((tk l)[k]?.getD (0, 0)) (colTo l T 0 k) := h3
      omega
end Go.Proofs.YticonolnagcakaaDoor

namespace Go.Proofs.YticonolnagcakaaDoor
open Go.RowKit

theorem full_le (W T : Nat) (l : Bs) : ∀ k, ∀ r ∈ (rowsV W T l k).1, r.tx ≤ k
  | 0 => fun r h => (by cases h)
  | k + 1 => fun r h => by
    have hc := (cur_row W T l k).1
    rcases rows_step W T l k with ⟨e, _⟩ | ⟨e, _⟩
    · rw [e] at h
      have := full_le W T l k r h
      omega
    · rw [e] at h
      rcases List.mem_append.1 h with h | h
      · have := full_le W T l k r h
        omega
      · rw [List.mem_singleton.1 h, hc]
        omega
/-- what holds of the row number i -/
theorem whole_row (W T : Nat) (hW : 1 ≤ W) (l : Bs) (i : Nat) (hi : i < (rowsV W T l (countN l)).1.length + 1) : ∃ r, (rowsL W T l (countN l))[i]? = some r ∧ r.pf = atN l r.fr ∧ r.pt = atN l r.tx ∧ r.fr ≤ r.tx ∧ r.tx ≤ countN l ∧ (r.fr = r.tx → countN l = 0) ∧ fitV W r.co ∧ (i = 0 → r.fr = 0) ∧ (i = (rowsV W T l (countN l)).1.length → r.tx = countN l) := by
  obtain ⟨h1, h2, h3, h4⟩ := full_rows W T hW l (countN l)
  obtain ⟨c1, c2, c3, c4, c5, c6⟩ := cur_row W T l (countN l)
  have hl : ∀ r, (rowsL W T l (countN l))[i]? = some r → i = 0 → r.fr = 0 := by
    intro r hr h0
    subst h0
    rw [hr] at h3
    exact h3
  rcases Nat.lt_or_ge i (rowsV W T l (countN l)).1.length with hlt | hge
  · obtain ⟨r, hr⟩ : ∃ r, (rowsV W T l (countN l)).1[i]? = some r := ⟨_, List.getElem?_eq_getElem hlt⟩
    have hL : (rowsL W T l (countN l))[i]? = some r := by unfold rowsL; rw [List.getElem?_append_left hlt]; exact hr
    have hmem := List.mem_of_getElem? hr
    obtain ⟨k1, k2, k3, k4⟩ := h1 r hmem
    exact ⟨r, hL, k1, k2, by omega, full_le W T l _ r hmem, fun e => by omega, k4, hl r hL, fun e => by omega⟩
  · have e : i = (rowsV W T l (countN l)).1.length := by omega
    have hL : (rowsL W T l (countN l))[i]? = some (rowsV W T l (countN l)).2 := by rw [e]; exact ap_last _ _
    refine ⟨_, hL, c3, by rw [c1]; exact c2, by omega, by omega, fun e => ?_, by rw [c4]; exact st_fit W T hW _ _, hl _ hL, fun _ => c1⟩
    rcases Nat.eq_zero_or_pos (countN l) with h0 | h0
    · exact h0
    · have := c6 h0
      omega
/-- rows lie one behind the other -/
theorem whole_next (W T : Nat) (hW : 1 ≤ W) (l : Bs) (i : Nat) (hi : i < (rowsV W T l (countN l)).1.length) : ((rowsL W T l (countN l))[i + 1]?.getD rowZ).fr = ((rowsL W T l (countN l))[i]?.getD rowZ).tx := (full_rows W T hW l (countN l)).2.1 i hi
/-- a line that is not wider than the view has one row -/
theorem whole_one (W T : Nat) (hT : 1 ≤ T) (hT2 : T ≤ 16) (l : Bs) (h : colsV l 0 (T : Nat) ≤ W) : (rowsV W T l (countN l)).1.length = 0 := by
  have e : colsV l 0 (T : Nat) = colTo l T 0 (countN l) := by
    have h1 : tabN (T : Nat) = T := by unfold tabN; omega
    have h2 : fromN 0 (T : Nat) = 0 := by unfold fromN; exact Nat.zero_mod _
    unfold colsV
    rw [h1, h2]
  rw [e] at h
  rw [rows_len, one_row W T hT l h (countN l) (Nat.le_refl _)]
end Go.Proofs.YticonolnagcakaaDoor
