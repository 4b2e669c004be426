/-
  The contract of the document's Chars: the characters of a text, as a row of its own.
-/
import Derived.Test.YtkknmbkfiiidmaaDoorRefFirst2
namespace Go.Proofs.YtkknmbkfiiidmaaDoor
open Go.RowKit

theorem info_char : (Tryd.prog.info? 49).map (fun i => (i.zero, i.size, i.bytes)) = some (some (.agg #[.int .i64 0, .int .i32 0, .int .i64 0, .bool false]), 4, 32) := by kernel_rfl

/-- The cells of one character, and of a text's. -/
def charCells (p : Nat) (c : Nat × Nat) : List Value := [.int .i64 p, .int .i32 c.1, .int .i64 c.2, .bool (rightR c.1 c.2)]
def rowCells : List (Nat × Nat) → Nat → List Value
  | [], _ => []
  | c :: t, p => charCells p c ++ rowCells t (p + c.2)
theorem rowCells_snoc (t : List (Nat × Nat)) (c : Nat × Nat) (p : Nat) : rowCells (t ++ [c]) p = rowCells t p ++ charCells (p + wsum t) c := by
  induction t generalizing p with
  | nil => simp [rowCells, wsum]
  | cons d t ih => simp [rowCells, ih, wsum_cons, Nat.add_assoc]
theorem rowCells_at (t : List (Nat × Nat)) (p i j : Nat) (hi : i < t.length) (hj : j < 4) : (rowCells t p)[i * 4 + j]? = (charCells (p + wsum (t.take i)) (t[i]?.getD (0, 0)))[j]? := by
  induction t generalizing p i with
  | nil => simp at hi
  | cons d t ih =>
    cases i with
    | zero =>
      rw [rowCells, List.getElem?_append_left (by simp [charCells]; omega)]
      simp [wsum]
    | succ i =>
      rw [rowCells, List.getElem?_append_right (by simp [charCells]; omega)]
      have e : (i + 1) * 4 + j - (charCells p d).length = i * 4 + j := by simp [charCells]; omega
      rw [e, ih _ _ (by simpa using hi)]
      simp [wsum_cons, Nat.add_assoc]

theorem charCells_one (p : Nat) (c : Nat × Nat) : ∀ u ∈ charCells p c, u.oneCell' = true := by
  intro u hu
  simp [charCells] at hu
  rcases hu with rfl | rfl | rfl | rfl <;> rfl

set_option maxHeartbeats 1000000 in
theorem chars_any (s : ByteArray) (hs : s.size ≤ 1048576) (w : World) :
    Calls Tryd.prog 46 #[.string s] w fun e w' => ∃ v, e = .returned v ∧ w'.ownsRow w.heap.size 49 4 v (countN (bs s)) (rowCells (tk (bs s)) 0) ∧ Below w.heap.size w w' := by
  obtain ⟨i0, hi, hz0, hz1, hz2⟩ := info_parts info_char
  go_enter Tryd.func46, Tryd.ntmps46
  go_wp2
  go_loopw [3, 4] (fun v i wr => ∃ done p, Cut (bs s) done p ∧ i = .int .i64 (p : Nat) ∧ wr.ownsRow w.heap.size 49 4 v done.length (rowCells done 0) ∧ Below w.heap.size w wr) (fun _ i _ => s.size - (intOf i).toNat)
  case atStart => exact ⟨[], 0, Cut.zero _, rfl, World.ownsRow_nil _ _ _ _, Below.refl _ _⟩
  case round =>
    obtain ⟨done, p, hc, rfl, hown, hb⟩ := hrel
    have hle := hc.len_le
    have hpl := hc.1
    rw [← size_bs] at hpl
    by_cases hp : p < s.size
    · have hst := hc.step (by rw [← size_bs]; exact hp)
      have hE : (s.extract p s.size).size ≠ 0 := by rw [size_bs, bs_drop]; simp; omega
      have hEs : (s.extract p s.size).size ≤ 140737488351232 := by rw [size_bs, bs_drop]; simp; omega
      have hnb := wid_bounds ((bs s).drop p)
      have hp2 := hst.1
      rw [← size_bs] at hp2
      obtain ⟨d, hd⟩ : ∃ d, d = Lib.decodeL ((bs s).drop p) := ⟨_, rfl⟩
      have hF := fun w => reffirst_some (s.extract p s.size) hEs d.1 d.2 hE (by rw [bs_drop, ← hd]) (by rw [bs_drop, ← hd]) w
      rw [← hd] at hst hnb hp2
      have hws := hc.2.2
      have hsn := rowCells_snoc done d 0
      rw [Nat.zero_add, hws] at hsn
      obtain ⟨r, n⟩ := d
      simp only at hF hnb hp2 hst
      have HF := Lib.hid hF
      have HS := Lib.hid hst
      have HN := Lib.hid hsn
      clear hF hst hsn hc hd hE hEs hws
      go_wp2_with (first | (go_at_call 57; (with_reducible refine (HF.out _).mono ?_); rintro e w1 ⟨rfl, hb1⟩; have hown1 := owns_below hown hb1 (Nat.le_refl _); have hbb := nx hb hb1; have hszb := hbb.size) | (at_builtin; refine wpList_append_own _ rfl _ _ 46 rfl w.heap.size 49 i0 (.agg #[.int .i64 0, .int .i32 0, .int .i64 0, .bool false]) 4 32 Tryd.underlying46 hi hz0 hz1 hz2 rfl (by decide) u3 _ _ rfl (hown1.alloc _) ⟨w1.heap.size, 0, none⟩ 1 1 (charCells p (r, n)) rfl (by simp [charCells]) (cells_new _ _ _) (charCells_one _ _) (by unfold maxLen; omega) (by omega) (by simp; omega) ?_; intro v' w2 hown' hgrow _))
      have hb3 : Below w.heap.size w w2 := (al hbb _).grown hgrow (by simp; omega) (fun q e => (hown1.lt q e).1)
      clear hgrow hown1 hown hbb hb1 hb
      go_roundw
      case rel => exact ⟨_, _, HS.out, by go_num, by rw [HN.out]; simpa using hown', hb3⟩
      case measure => simp [intOf]; omega
    · have he := (hc.end' (by rw [← size_bs]; exact hp)).1
      have HE := Lib.hid he
      clear he hc
      go_wp2
      go_ret
      refine ⟨_, rfl, ?_, hb⟩
      rw [HE.out] at hown
      exact hown

/-! ### what the row is read for -/
/-- a row of characters that lies somewhere -/
def CharsAt (w : World) (ao : Option Addr) (l : Bs) : Prop :=
  ∀ i, i < countN l → ∃ g, ao = some ⟨g, 0, none⟩ ∧ w.cell? ⟨g, i * 4, none⟩ = some (.int .i64 (atN l i)) ∧ w.cell? ⟨g, i * 4 + 1, none⟩ = some (.int .i32 ((tk l)[i]?.getD (0, 0)).1) ∧
    w.cell? ⟨g, i * 4 + 2, none⟩ = some (.int .i64 ((tk l)[i]?.getD (0, 0)).2) ∧ w.cell? ⟨g, i * 4 + 3, none⟩ = some (.bool (rightR ((tk l)[i]?.getD (0, 0)).1 ((tk l)[i]?.getD (0, 0)).2))

theorem CharsAt.below {w w' : World} {ao : Option Addr} {l : Bs} (h : CharsAt w ao l) {B : Nat} (hb : Below B w w') (hB : w.heap.size ≤ B) : CharsAt w' ao l := by
  intro i hi
  obtain ⟨g, e, h0, h1, h2, h3⟩ := h i hi
  have hlt := World.block_lt_of_cell? w _ h0
  simp only at hlt
  exact ⟨g, e, (hb.cell (p := ⟨g, _, none⟩) (by show g < B; omega)).trans h0, (hb.cell (p := ⟨g, _, none⟩) (by show g < B; omega)).trans h1, (hb.cell (p := ⟨g, _, none⟩) (by show g < B; omega)).trans h2, (hb.cell (p := ⟨g, _, none⟩) (by show g < B; omega)).trans h3⟩

theorem CharsAt.owned {w : World} {base : Nat} {e : TypeId} {v : Value} {l : Bs} (h : w.ownsRow base e 4 v (countN l) (rowCells (tk l) 0)) : ∃ ao cap, v = .slice ao (countN l) cap ∧ CharsAt w ao l := by
  rcases h.2 with ⟨rfl, h0⟩ | ⟨g, cap, cur, rfl, hg, hh, hn, hc, hs, ht⟩
  · exact ⟨none, 0, by rw [h0], fun i hi => by omega⟩
  · refine ⟨_, cap, rfl, fun i hi => ⟨g, rfl, ?_⟩⟩
    have hi' : i < (tk l).length := hi
    have key : ∀ j, j < 4 → w.cell? ⟨g, i * 4 + j, none⟩ = (charCells (atN l i) ((tk l)[i]?.getD (0, 0)))[j]? := by
      intro j hj
      rw [h.cellAt (i * 4 + j) (by omega), rowCells_at _ _ _ _ hi' hj, Nat.zero_add]
      rfl
    exact ⟨key 0 (by omega), key 1 (by omega), key 2 (by omega), key 3 (by omega)⟩

theorem chars_at (s : ByteArray) (hs : s.size ≤ 1048576) (w : World) :
    Calls Tryd.prog 46 #[.string s] w fun e w' => ∃ ao cap, e = .returned (.slice ao (countN (bs s)) cap) ∧ CharsAt w' ao (bs s) ∧ Below w.heap.size w w' := by
  refine (chars_any s hs w).mono ?_
  rintro e w' ⟨v, rfl, ho, hb⟩
  obtain ⟨ao, cap, rfl, hc⟩ := CharsAt.owned ho
  exact ⟨ao, cap, rfl, hc, hb⟩

theorem bs_len_le (s : ByteArray) : countN (bs s) ≤ s.size := by rw [size_bs]; exact countN_le _

theorem countN_pos {l : Bs} (h : l ≠ []) : 1 ≤ countN l := by unfold countN; rw [tk_cons l h]; simp
theorem lastC_get {l : Bs} (h : l ≠ []) : (tk l)[countN l - 1]?.getD (0, 0) = lastC l := by
  have hp := countN_pos h
  unfold lastC
  rw [List.getLast?_eq_getElem?]
  unfold countN at *
  rw [List.getElem?_eq_getElem (by omega)]
  rfl

theorem info_i32 : (Tryd.prog.info? 21).map (fun i => (i.zero, i.size, i.bytes)) = some (some (.int .i32 0), 1, 4) := by kernel_rfl
/-- The runes of a text. -/
def runesZ (l : Bs) : List Int := (tk l).map fun c => (c.1 : Int)
theorem runesZ_len (l : Bs) : (runesZ l).length = countN l := by simp [runesZ, countN]
theorem runesZ_snoc (l : Bs) (k : Nat) (h : k < countN l) : (runesZ l).take (k + 1) = (runesZ l).take k ++ [((((tk l)[k]?.getD (0, 0)).1 : Nat) : Int)] := by
  have h' : k < (tk l).length := h
  rw [List.take_succ_eq_append_getElem (by rw [runesZ_len]; exact h)]
  simp only [runesZ, List.getElem_map, List.getElem?_eq_getElem h', Option.getD_some]

/-- the greatest character that begins at or ahead of a place has it -/
theorem ofT_max {l : Bs} {q m : Nat} (hq : q < l.length) (hm : m < countN l) (h1 : atN l m ≤ q) (h2 : ∀ j, j < countN l → atN l j ≤ q → j ≤ m) : ofT (tk l) q = m := by
  have hc := cut_at l m (by omega)
  have hlen : ((tk l).take m).length = m := by unfold countN at hm; simp; omega
  have hp : atN l m < l.length := by omega
  have hst := hc.step hp
  have hat := hst.at'
  rw [List.length_append, hlen, List.length_singleton] at hat
  have := ofT_cut hc hp h1 (by
    rcases Nat.lt_or_ge q (atN l m + (Lib.decodeL (l.drop (atN l m))).2) with h | h
    · exact h
    · exfalso
      rw [← hat] at h
      by_cases e : m + 1 < countN l
      · have := h2 (m + 1) e h; omega
      · have : m + 1 = countN l := by omega
        rw [this, atN_full] at h
        omega)
  rw [this, hlen]

set_option maxHeartbeats 1000000 in
theorem refbegs_any (s : ByteArray) (hs : s.size ≤ 1048576) (c : Int) (w : World) :
    Calls Tryd.prog 53 #[.string s, .int .i64 c] w fun e w' => e = .returned (.bool (begB (bs s) c)) ∧ Below w.heap.size w w' := by
  have hle := bs_len_le s
  obtain ⟨N, hN⟩ : ∃ N, N = countN (bs s) := ⟨_, rfl⟩
  have hC := fun w => chars_at s hs w
  rw [← hN] at hC hle
  have HC := Lib.hid hC
  have HN := Lib.hid hN
  clear hC hN
  go_enter Tryd.func53, Tryd.ntmps53
  go_wp2_with (go_at_call 46; (with_reducible refine (HC.out _).mono ?_); rintro e w1 ⟨ao, cap, rfl, hc, hb⟩)
  have HCH := Lib.hid hc
  clear hc
  go_loop [6] (fun i => ∃ k : Nat, i = .int .i64 k ∧ k ≤ N ∧ Hid (∀ j, j < k → ((atN (bs s) j : Nat) : Int) ≠ c)) (fun i => N - (intOf i).toNat)
  case atStart => exact ⟨0, rfl, by omega, (show Hid _ from fun j h => absurd h (by omega))⟩
  case round =>
    obtain ⟨k, rfl, hk, hall⟩ := hrel
    by_cases hlt : k < N
    · obtain ⟨g, rfl, c0, c1, c2, c3⟩ := HCH.out k (by rw [← HN.out]; exact hlt)
      clear c1 c2 c3
      obtain ⟨x, hx⟩ : ∃ x, x = atN (bs s) k := ⟨_, rfl⟩
      rw [← hx] at c0
      by_cases hxq : (x : Int) = c
      · have hd : ((x : Int) == c) = true := beq_iff_eq.2 hxq
        have HB := Lib.hid (show begB (bs s) c = true by
          rw [← hxq, hx]
          have hcut := cut_at (bs s) k (by rw [← HN.out]; omega)
          exact begB_t hcut.1 ⟨_, hcut⟩)
        clear hx hxq
        go_wp2
        go_ret
        rw [HB.out]
        exact ⟨rfl, hb⟩
      · have hd : ((x : Int) == c) = false := beq_eq_false_iff_ne.2 hxq
        have HX := Lib.hid hx
        have HXQ := Lib.hid hxq
        clear hx hxq
        go_wp2
        go_round
        case rel =>
          refine ⟨k + 1, by go_num, by omega, (show Hid _ from fun j h1 => ?_)⟩
          by_cases e : j = k
          · subst e; rw [← HX.out]; exact HXQ.out
          · exact hall.out j (by omega)
        case measure => simp [intOf]; omega
    · obtain rfl : k = N := by omega
      by_cases he : c = (s.size : Int)
      · have hd : (c == (s.size : Int)) = true := beq_iff_eq.2 he
        have HB := Lib.hid (show begB (bs s) c = true by rw [he, size_bs]; exact begB_t (Nat.le_refl _) ⟨_, Cut.full _⟩)
        clear he
        go_wp2
        go_ret
        rw [HB.out]
        exact ⟨rfl, hb⟩
      · have hd : (c == (s.size : Int)) = false := beq_eq_false_iff_ne.2 he
        have hB : begB (bs s) c = false := by
          by_cases h0 : c < 0
          · exact begB_neg h0
          by_cases h1 : (s.size : Int) < c
          · exact begB_beyond (by rw [← size_bs]; exact h1)
          obtain ⟨q, rfl⟩ : ∃ q : Nat, c = q := ⟨c.toNat, by omega⟩
          refine begB_f (by rw [← size_bs]; omega) ?_
          rintro ⟨a, ha⟩
          have hlt2 := ha.lt_count (by rw [← size_bs]; omega)
          rw [← HN.out] at hlt2
          exact hall.out a.length hlt2 (by rw [ha.at'])
        have HB := Lib.hid hB
        clear hB he
        go_wp2
        go_ret
        rw [HB.out]
        exact ⟨rfl, hb⟩
end Go.Proofs.YtkknmbkfiiidmaaDoor
