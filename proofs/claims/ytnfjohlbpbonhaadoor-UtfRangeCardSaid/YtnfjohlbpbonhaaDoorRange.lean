/-
  The walk of the law UtfRange: a text's characters are what a range over it tells.
-/
import Derived.Test.YtnfjohlbpbonhaaDoorBackLaw
import Derived.Test.YtnfjohlbpbonhaaDoorWrong
import Derived.Test.YtnfjohlbpbonhaaDoorAwake
import Derived.Test.YtnfjohlbpbonhaaDoorOrder
import Derived.Deep.RegionHeldLaw
import Derived.Deep.RegionHeld3
import Derived.Test.YtnfjohlbpbonhaaDoorRound
namespace Go.Proofs.YtnfjohlbpbonhaaDoor
open Go.RowKit
attribute [local go_sem] Oper.semAt_some

/-- Rows of two types lie in two blocks. -/
theorem rows_apart {W : World} {b1 b2 : Nat} {e1 e2 : TypeId} {s1 s2 : Nat} {v1 v2 : Value} {n1 n2 : Nat} {x1 x2 : List Value} (h1 : W.ownsRow b1 e1 s1 v1 n1 x1) (h2 : W.ownsRow b2 e2 s2 v2 n2 x2) (hne : e1 ≠ e2) : v1.ownBlock = none ∨ v1.ownBlock ≠ v2.ownBlock := by
  rcases h1.2 with ⟨rfl, _⟩ | ⟨g, cap, cur, rfl, _, hg, _⟩
  · exact .inl rfl
  · refine .inr (fun e => ?_)
    rcases h2.2 with ⟨rfl, _⟩ | ⟨g', cap', cur', rfl, _, hg', _⟩
    · simp [Value.ownBlock] at e
    · have : g = g' := by simpa [Value.ownBlock] using e
      subst this
      rw [hg] at hg'
      simp at hg'
      exact hne hg'.2

/-- The places and the runes of the first characters. -/
def plc (l : Bs) (k : Nat) : List Value := (List.range k).map fun i => Value.int .i64 (atN l i : Nat)
def rns (l : Bs) (k : Nat) : List Value := (List.range k).map fun i => Value.int .i32 (((tk l)[i]?.getD (0, 0)).1 : Nat)
theorem plc_succ (l : Bs) (k : Nat) : plc l (k + 1) = plc l k ++ [.int .i64 (atN l k : Nat)] := by simp [plc, List.range_succ]
theorem rns_succ (l : Bs) (k : Nat) : rns l (k + 1) = rns l k ++ [.int .i32 (((tk l)[k]?.getD (0, 0)).1 : Nat)] := by simp [rns, List.range_succ]

theorem row_set {W : World} {base : Nat} {e : TypeId} {size : Nat} {v : Value} {n : Nat} {L : List Value} (h : W.ownsRow base e size v n L) {B : Nat} (hB : B < base) (u : Value) : (W.setCell ⟨B, 0, none⟩ u).ownsRow base e size v n L :=
  h.kept (grownBy_setCell' W B u) (by
    cases hv : v.ownBlock with
    | none => exact .inl rfl
    | some g => exact .inr (fun e => by have := (h.lt g hv).1; injection e with e; omega))

/-- What the first loop holds: the count c, k4 runes and k5 places. -/
structure RM (w1 W : World) (l : Bs) (c k4 k5 : Nat) (v4 v5 : Value) : Prop where
  b3 : Boxed W w1.heap.size 3 (.int .i64 (c : Nat))
  b4 : Boxed W (w1.heap.size + 1) 27 v4
  b5 : Boxed W (w1.heap.size + 1 + 1) 53 v5
  r4 : W.ownsRow (w1.heap.size + 4) 21 1 v4 k4 (rns l k4)
  r5 : W.ownsRow (w1.heap.size + 4) 3 1 v5 k5 (plc l k5)
  sz : w1.heap.size + 4 ≤ W.heap.size
  bel : Below w1.heap.size w1 W

theorem RM.keep {w1 W W' : World} {l : Bs} {c k4 k5 : Nat} {v4 v5 : Value} (H : RM w1 W l c k4 k5 v4 v5) (hb : Below W.heap.size W W') : RM w1 W' l c k4 k5 v4 v5 :=
  ⟨(hb.block _ H.b3.lt).trans H.b3, (hb.block _ H.b4.lt).trans H.b4, (hb.block _ H.b5.lt).trans H.b5, owns_below H.r4 hb (Nat.le_refl _), owns_below H.r5 hb (Nat.le_refl _), Nat.le_trans H.sz hb.size, nx H.bel hb⟩
/-- The iterator goes on. -/
theorem RM.iter {w1 W : World} {l : Bs} {c k4 k5 : Nat} {v4 v5 : Value} (H : RM w1 W l c k4 k5 v4 v5) {s : ByteArray} {p : Nat} (hit : W.heap[w1.heap.size + 1 + 1 + 1]? = some (.stringIter s p)) (p' : Nat) : RM w1 (W.iterAt (w1.heap.size + 1 + 1 + 1) s p') l c k4 k5 v4 v5 := by
  have hb : Below (w1.heap.size + 1 + 1 + 1) W (W.iterAt (w1.heap.size + 1 + 1 + 1) s p') := Lib.below_iterAt (Below.refl _ _) (Nat.le_refl _) s p'
  exact ⟨(hb.block _ (by omega)).trans H.b3, (hb.block _ (by omega)).trans H.b4, (hb.block _ (by omega)).trans H.b5, owns_iter H.r4 hit p', owns_iter H.r5 hit p', by rw [Lib.iterAt_size]; exact H.sz, H.bel.trans (hb.mono (by omega))⟩
/-- The count goes on. -/
theorem RM.count {w1 W : World} {l : Bs} {c k4 k5 : Nat} {v4 v5 : Value} (H : RM w1 W l c k4 k5 v4 v5) (c' : Nat) {x : Int} (hx : x = (c' : Nat)) : RM w1 (W.setCell ⟨w1.heap.size, 0, none⟩ (.int .i64 x)) l c' k4 k5 v4 v5 := by
  subst hx
  exact ⟨H.b3.set _, H.b4.kept (grownBy_setCell' _ _ _) (by simp), H.b5.kept (grownBy_setCell' _ _ _) (by simp; omega), row_set H.r4 (by omega) _, row_set H.r5 (by omega) _, Nat.le_trans H.sz (grownBy_setCell' W w1.heap.size (.int .i64 (c' : Nat))).size, H.bel.setCell (p := ⟨w1.heap.size, 0, none⟩) (Nat.le_refl _) _⟩
/-- One more rune. -/
theorem RM.put4 {w1 W w6 : World} {l : Bs} {c k4 k5 x : Nat} {v4 v5 v' : Value} {tmp : Obj} (H : RM w1 W l c k4 k5 v4 v5) (hx : ((tk l)[k4]?.getD (0, 0)).1 = x) (hown : w6.ownsRow (w1.heap.size + 4) 21 1 v' (k4 + 1) (rns l k4 ++ [.int .i32 (x : Nat)])) (hgrow : (W.alloc tmp).grownBy w6 v4.ownBlock) :
    Boxed w6 (w1.heap.size + 1) 27 v4 ∧ RM w1 (w6.setCell ⟨w1.heap.size + 1, 0, none⟩ v') l c (k4 + 1) k5 v' v5 ∧ KeepsOthers W (w6.setCell ⟨w1.heap.size + 1, 0, none⟩ v') := by
  have hs := H.sz
  obtain ⟨hv1, hv2, hr, hk, hb, hoth⟩ := app_box (n₀ := w1.heap.size) H.b4 (by omega) H.r4 H.sz (by omega) hown hgrow
  refine ⟨hv1, ⟨hoth _ _ _ (by omega) (by omega) H.b3, hv2, hoth _ _ _ (by omega) (by omega) H.b5, ?_, row_set ((H.r5.alloc tmp).kept hgrow (rows_apart H.r5 H.r4 (by decide))) (by omega) _, Nat.le_trans hs hb.size, H.bel.trans hb⟩, hk⟩
  rw [rns_succ, hx]
  exact hr
/-- One more place. -/
theorem RM.put5 {w1 W w6 : World} {l : Bs} {c k4 k5 x : Nat} {v4 v5 v' : Value} {tmp : Obj} (H : RM w1 W l c k4 k5 v4 v5) (hx : atN l k5 = x) (hown : w6.ownsRow (w1.heap.size + 4) 3 1 v' (k5 + 1) (plc l k5 ++ [.int .i64 (x : Nat)])) (hgrow : (W.alloc tmp).grownBy w6 v5.ownBlock) :
    Boxed w6 (w1.heap.size + 1 + 1) 53 v5 ∧ RM w1 (w6.setCell ⟨w1.heap.size + 1 + 1, 0, none⟩ v') l c k4 (k5 + 1) v4 v' ∧ KeepsOthers W (w6.setCell ⟨w1.heap.size + 1 + 1, 0, none⟩ v') := by
  have hs := H.sz
  obtain ⟨hv1, hv2, hr, hk, hb, hoth⟩ := app_box (n₀ := w1.heap.size) H.b5 (by omega) H.r5 H.sz (by omega) hown hgrow
  refine ⟨hv1, ⟨hoth _ _ _ (by omega) (by omega) H.b3, hoth _ _ _ (by omega) (by omega) H.b4, hv2, row_set ((H.r4.alloc tmp).kept hgrow (rows_apart H.r4 H.r5 (by decide))) (by omega) _, ?_, Nat.le_trans hs hb.size, H.bel.trans hb⟩, hk⟩
  rw [plc_succ, hx]
  exact hr

theorem c2_keep {W0 W W' : World} {g g' : Nat} {v v' : Value} (H : W.cell? ⟨g, 0, none⟩ = some v ∧ W.cell? ⟨g', 0, none⟩ = some v' ∧ Below W0.heap.size W0 W) (hb : Below W.heap.size W W') :
    W'.cell? ⟨g, 0, none⟩ = some v ∧ W'.cell? ⟨g', 0, none⟩ = some v' ∧ Below W0.heap.size W0 W' :=
  ⟨cellKeep H.1 hb, cellKeep H.2.1 hb, nx H.2.2 hb⟩
theorem reads_conv (W : World) (zs : List Int) (m : Nat) (t : TypeId) : ReadsI (W.alloc (.cells ((zs.map (Value.int .i32)).toArray ++ Array.replicate m (.int .i32 0)) t)).drew .i32 (some ⟨W.heap.size, 0, none⟩) zs := by
  refine .inr ⟨W.heap.size, 0, rfl, fun j hj => ?_⟩
  rw [Nat.zero_add]
  refine (World.cell?_alloc_at (w := W) _ _ W.heap.size j rfl).trans ?_
  rw [Array.getElem?_append_left (by simpa using hj)]
  simp [hj]
theorem owned_slice {w : World} {base : Nat} {e : TypeId} {size : Nat} {v : Value} {n : Nat} {xs : List Value} (h : w.ownsRow base e size v n xs) : ∃ a c, v = .slice a n c := by
  rcases h.2 with ⟨rfl, h0⟩ | ⟨g, cap, cur, rfl, _⟩
  · exact ⟨none, 0, by rw [h0]⟩
  · exact ⟨_, cap, rfl⟩

/-- What a character says of the functions that are asked of it. -/
theorem ask_at {l : Bs} {done : List (Nat × Nat)} {p : Nat} (hc : Cut l done p) (hp : p < l.length) : atZ l (done.length : Nat) = (((p : Nat) : Int), 0) := by
  have h := hc.lt_count hp
  rw [atZ_in ⟨by omega, by omega⟩, Int.toNat_natCast, hc.at']
theorem ask_of {l : Bs} {done : List (Nat × Nat)} {p : Nat} (hc : Cut l done p) (hp : p < l.length) : ofZ l (p : Nat) = (((done.length : Nat) : Int), 0) := by
  rw [ofZ_in ⟨by omega, by omega⟩, Int.toNat_natCast, ofT_cut hc hp (Nat.le_refl _) (by have := (wid_bounds (l.drop p)).1; omega)]

theorem rns_full (l : Bs) : rns l (countN l) = (runesZ l).map (Value.int .i32) := by
  unfold rns runesZ countN
  rw [List.map_map]
  apply List.ext_getElem
  · simp
  · intro i h1 h2
    simp at h1 h2
    simp [h2]
/-- The places, as numbers. -/
def plz (l : Bs) (k : Nat) : List Int := (List.range k).map fun i => ((atN l i : Nat) : Int)
theorem plz_len (l : Bs) (k : Nat) : (plz l k).length = k := by simp [plz]
theorem plz_get (l : Bs) (k i : Nat) (h : i < k) : (plz l k)[i]?.getD 0 = ((atN l i : Nat) : Int) := by simp [plz, h]
theorem plc_plz (l : Bs) (k : Nat) : plc l k = (plz l k).map (Value.int .i64) := by simp [plc, plz]
theorem runesZ_get (l : Bs) (i : Nat) (h : i < countN l) : (runesZ l)[i]?.getD 0 = ((((tk l)[i]?.getD (0, 0)).1 : Nat) : Int) := by
  unfold countN at h
  simp [runesZ, h]

theorem RM.reads4 {w1 W : World} {l : Bs} {n k5 c4 : Nat} {a4 : Option Addr} {v5 : Value} (H : RM w1 W l n n k5 (.slice a4 n c4) v5) (hn : countN l = n) : ReadsI W .i32 a4 (runesZ l) := by
  have h := H.r4
  rw [← hn, rns_full] at h
  obtain ⟨a, c, e, -, R⟩ := ReadsI.owned h
  injection e with e1 _ _
  subst e1
  exact R
theorem RM.reads5 {w1 W : World} {l : Bs} {c k4 k5 c5 : Nat} {a5 : Option Addr} {v4 : Value} (H : RM w1 W l c k4 k5 v4 (.slice a5 k5 c5)) : ReadsI W .i64 a5 (plz l k5) := by
  have h := H.r5
  rw [plc_plz] at h
  obtain ⟨a, c, e, -, R⟩ := ReadsI.owned h
  injection e with e1 _ _
  subst e1
  exact R
theorem gr_refl (W : World) (b : Nat) : W.grownBy W (some b) := ⟨rfl, rfl, rfl, Nat.le_refl _, fun _ _ _ => rfl⟩
theorem gr_trans {X Y Z : World} {b : Nat} (h : X.grownBy Y (some b)) (k : Y.grownBy Z (some b)) : X.grownBy Z (some b) :=
  ⟨k.os.trans h.os, k.tape.trans h.tape, k.output.trans h.output, Nat.le_trans h.size k.size, fun i hi hne => (k.block i (Nat.lt_of_lt_of_le hi h.size) hne).trans (h.block i hi hne)⟩
theorem ownFrom_gr {β : Type} (W1 : World) (b : Nat) : OwnFrom W1.heap.size (fun (_ : β) W => W1.grownBy W (some b)) := fun _ A B row hs hg hr =>
  ⟨hg.os.trans hs.os, hg.tape.trans hs.tape, hg.output.trans hs.output, Nat.le_trans hs.size hg.size, fun i hi hne => (hg.block i (Nat.lt_of_lt_of_le hi hs.size) (fun e => by have := (hr i e.symm).1; omega)).trans (hs.block i hi hne)⟩
theorem gr_below {B : Nat} {a W W' : World} {b : Nat} (h : Below B a W) (hg : W.grownBy W' (some b)) (hB : B ≤ W.heap.size) (hb : B ≤ b) : Below B a W' := h.grown hg hB (fun k e => by cases e; exact hb)
theorem ups_prefix {α : Type} (f : Nat → α) {a b : Nat} (h : a ≤ b) : ups f a <+: ups f b := by
  induction b with
  | zero => obtain rfl : a = 0 := by omega
            exact List.prefix_refl _
  | succ b ih =>
    by_cases e : a = b + 1
    · subst e; exact List.prefix_refl _
    · rw [ups_succ]
      exact (ih (by omega)).trans (List.prefix_append _ _)
theorem ups_step {α : Type} {f : Nat → α} {pre : List α} (h : pre = ups f pre.length) : pre ++ [f pre.length] = ups f (pre ++ [f pre.length]).length := by
  rw [List.length_append, List.length_singleton, ups_succ, ← h]
theorem ups_mism {α : Type} {f : Nat → α} {pre : List α} {x : α} (h : x ≠ f pre.length) (k : Nat) : ¬ pre ++ [x] <+: ups f k := by
  rintro ⟨r, hr⟩
  have hl := congrArg List.length hr
  simp only [List.length_append, List.length_singleton, ups_length] at hl
  have := ups_get f k pre.length (by omega)
  rw [← hr, List.append_assoc, List.getElem?_append_right (Nat.le_refl _), Nat.sub_self] at this
  simp at this
  exact h this

theorem gr_drewN (W : World) (k b : Nat) : W.grownBy (W.drewN k) (some b) := ⟨rfl, rfl, rfl, Nat.le_refl _, fun _ _ _ => rfl⟩
theorem ko_drewN (W : World) (k : Nat) : KeepsOthers W (W.drewN k) := ⟨Nat.le_refl _, fun _ _ h _ => h⟩
/-- The number in a box. -/
def boxN (W : World) (g : Nat) : Nat := match W.cell? ⟨g, 0, none⟩ with | some (.int _ x) => x.toNat | _ => 0
theorem boxN_of {W : World} {g : Nat} {x : Int} (h : Boxed W g 3 (.int .i64 x)) : boxN W g = x.toNat := by unfold boxN; rw [h.cell]

/-- What is no prefix of the wrong places. -/
theorem wr_none {l : Bs} {j n : Nat} {pre : List Nat} {x : Nat} (hp : pre = wrTo l j) (he : wrTo l n = wrTo l j) : ¬ pre ++ [x] <+: wrTo l n := by
  intro h
  have := h.length_le
  rw [he, ← hp] at this
  simp at this
  omega
theorem wr_other {l : Bs} {j n : Nat} {pre : List Nat} {x : Nat} (hp : pre = wrTo l j) (hj : j < n) (hw : isWrong l j = true) (hx : atN l j ≠ x) : ¬ pre ++ [x] <+: wrTo l n := by
  intro h
  have h2 := wrTo_prefix l (show j + 1 ≤ n from hj)
  rw [wrTo_yes l j hw, ← hp] at h2
  have h3 := h.getElem (i := pre.length) (by simp)
  have h4 := h2.getElem (i := pre.length) (by simp)
  simp at h3 h4
  exact hx (h4.trans h3.symm)
theorem wr_stop {l : Bs} {j n : Nat} (he : wrTo l j = wrTo l n) (hj : j < n) : isWrong l j = false := by
  cases hw : isWrong l j with
  | false => rfl
  | true =>
    have h := (wrTo_prefix l (show j + 1 ≤ n from hj)).length_le
    rw [wrTo_yes l j hw, ← he] at h
    simp at h
    omega
theorem isWrong_of {l : Bs} {j y d : Nat} (hy : ((tk l)[j]?.getD (0, 0)).1 = y) (hd : atN l (j + 1) = atN l j + d) (hj : j < countN l) : isWrong l j = (((y : Int) == 65533) && ((d : Int) == 1)) := by
  have e := atN_succ l j hj
  have e2 : ((tk l)[j]?.getD (0, 0)).2 = d := by omega
  unfold isWrong rightR
  rw [hy, e2, Bool.not_not]
  congr 1
  by_cases h : d = 1
  · subst h; rfl
  · rw [beq_eq_false_iff_ne.2 h, beq_eq_false_iff_ne.2 (by omega)]

set_option maxRecDepth 100000 in
set_option maxHeartbeats 8000000 in
theorem utfRange_any (s : ByteArray) (hs : s.size ≤ 140737488351232) (w : World) (hT : Tabs w) :
    Calls Tryd.prog 13 #[.string s] w fun e w' => e = .returned (.bool true) ∧ Below w.heap.size w w' := by
  obtain ⟨i0, hi, hz0, hz1, hz2⟩ := info_parts info_i32
  obtain ⟨i1, hi', hy0, hy1, hy2⟩ := info_parts info_int
  have HT := Lib.hid hT
  have HAW := Lib.hid (fun w hT => awake_any w hT)
  clear hT
  refine callsIn_wide.1 (callsIn_of_wp_marks (n := 9) Tryd.func13 rfl trivial (wpIn_wide.2 ?_) rfl)
  simp only [Tryd.ntmps13, List.size_toArray, List.length_cons, List.length_nil, Nat.reduceAdd, Nat.reduceSub, Array.replicate_succ, Array.replicate_zero, List.push_toArray, List.append_toArray, List.nil_append, List.cons_append]
  have a2 := Boxed.new w 4 (.bool false)
  have hbA : Below w.heap.size w (w.alloc (.cells #[.bool false] 4)) := al (Below.refl _ _) _
  by_cases h3 : 3000 < s.size
  · have h3i : (3000 : Int) < (s.size : Int) := by omega
    have hx : (s.extract 0 3000).size ≤ 3000 := by rw [size_bs, bs_take]; simp; omega
    have HX := Lib.hid hx
    clear hx
    go_wp2_with (first | (go_at_call 30; (with_reducible refine (HAW.out _ (HT.out.below hbA (Nat.le_refl _))).mono ?_); rintro e w1 ⟨rfl, hb1⟩))
    have hx := HX.out
    clear HX h3 h3i
    generalize s.extract 0 3000 = t at hx ⊢
    have hbw1 : Below w.heap.size w w1 := hbA.trans (hb1.mono hbA.size)
    have b2c : Boxed w1 w.heap.size 4 (.bool false) := (hb1.block _ a2.lt).trans a2
    clear hb1 a2 hbA
    obtain ⟨l, hl⟩ : ∃ l, bs t = l := ⟨_, rfl⟩
    have HL := Lib.hid hl
    clear hl
    go_loopw [6, 7, 8, 9, 10, 11, 12, 13, 14] (fun _ _ _ _ _ _ _ _ _ wr => ∃ done p v4 v5, Cut l done p ∧ wr.heap[w1.heap.size + 1 + 1 + 1]? = some (.stringIter t p) ∧ RM w1 wr l done.length done.length done.length v4 v5) (fun _ _ _ _ _ _ _ _ _ wr => t.size - wr.iterPos (w1.heap.size + 1 + 1 + 1))
    case atStart =>
      have hI := World.iter_heap (((w1.alloc (.cells #[.int .i64 0] 3)).alloc (.cells #[.slice none 0 0] 27)).alloc (.cells #[.slice none 0 0] 53)) t 0
      rw [World.size_alloc, World.size_alloc, World.size_alloc] at hI
      refine ⟨[], 0, .slice none 0 0, .slice none 0 0, Cut.zero _, hI, ?_⟩
      have h4 := Boxed.new (w1.alloc (.cells #[.int .i64 0] 3)) 27 (.slice none 0 0)
      have h5 := Boxed.new ((w1.alloc (.cells #[.int .i64 0] 3)).alloc (.cells #[.slice none 0 0] 27)) 53 (.slice none 0 0)
      rw [World.size_alloc] at h4
      rw [World.size_alloc, World.size_alloc] at h5
      exact ⟨(((Boxed.new w1 3 (.int .i64 0)).alloc _).alloc _).alloc _, (h4.alloc _).alloc _, h5.alloc _, World.ownsRow_nil _ _ _ _, World.ownsRow_nil _ _ _ _, by simp only [World.iter, World.size_alloc]; exact Nat.le_refl _, al (al (al (al (Below.refl _ _) _) _) _) _⟩
    case round =>
      obtain ⟨done, p, v4, v5, hc, hit, H⟩ := hrel
      have hpl := hc.1
      have hcl := hc.le_count
      have hct := countN_le l
      have hlt0 : l.length = t.size := by rw [size_bs, HL.out]
      by_cases hp : p < l.length
      · have hpt : p < t.size := by omega
        have hnx := fun ty => Lib.run_next_any_at (P := Tryd.prog) wr (w1.heap.size + 1 + 1 + 1) t p ty hit hpt
        rw [decode_bs, HL.out] at hnx
        have hst := hc.step hp
        have hw := (wid_bounds (l.drop p)).1
        have hget := hc.get hp
        have hlt := hc.lt_count hp
        have HA := Lib.hid (c_at t (by omega) (done.length : Nat) (p : Nat) 0 (by rw [HL.out]; exact ask_at hc hp))
        have HO := Lib.hid (c_of t (by omega) (p : Nat) (done.length : Nat) 0 (by rw [HL.out]; exact ask_of hc hp))
        have HB := Lib.hid (c_begins t (by omega) (p : Nat) true (by rw [HL.out]; exact begB_t (by omega) ⟨done, hc⟩))
        have hEs : (t.extract p t.size).size ≠ 0 := by rw [size_bs, bs_drop, HL.out, List.length_drop]; omega
        have hF := fun r n' h1 h2 => first_some (t.extract p t.size) r n' hEs (by rw [bs_drop, HL.out]; exact h1) (by rw [bs_drop, HL.out]; exact h2)
        have hwl : (Lib.decodeL (l.drop p)).2 ≤ l.length - p := by have := wid_le (l.drop p) (by intro e; have := congrArg List.length e; simp at this; omega); simpa using this
        have hat := hc.at'
        obtain ⟨d, hd⟩ : ∃ d, d = Lib.decodeL (l.drop p) := ⟨_, rfl⟩
        rw [← hd] at hnx hst hw hwl hget hF
        obtain ⟨r, n'⟩ := d
        simp only at hnx hw hwl hst hF
        have HF := Lib.hid (hF (r : Int) n' rfl rfl)
        have HG := Lib.hid (show ((tk l)[done.length]?.getD (0, 0)).1 = r by rw [hget])
        have HAT := Lib.hid hat
        have H2 := H.iter hit (p + n')
        have HIT := Lib.hid (Lib.iterAt_heap wr (w1.heap.size + 1 + 1 + 1) t p (p + n') hit)
        have HIP := Lib.hid (show wr.iterPos (w1.heap.size + 1 + 1 + 1) = p from iterPos_of hit)
        have HS := Lib.hid hst
        clear hd hc hst hit hget hF H hat hEs
        obtain ⟨V, hV⟩ : ∃ V, wr.iterAt (w1.heap.size + 1 + 1 + 1) t (p + n') = V := ⟨_, rfl⟩
        rw [hV] at hnx H2 HIT
        clear hV
        have hbV : Below w.heap.size w V := hbw1.trans (H2.bel.mono hbw1.size)
        have HTV := Lib.hid (HT.out.below hbV (Nat.le_refl _))
        have d3 := H2.b3.cell
        have hk3 : done.length ≤ 3000 := by omega
        clear hbV
        go_wp2_with (first
          | (go_at_call 41; (with_reducible refine (HA.out _).mono ?_); rintro e w2 ⟨rfl, hb2⟩)
          | (go_at_call 40; (with_reducible refine (HO.out _).mono ?_); rintro e w3 ⟨rfl, hb3⟩; have hb13 := nx hb2 hb3)
          | (go_at_call 15; (with_reducible refine (HF.out _ (HTV.out.below hb13 (Nat.le_refl _))).mono ?_); rintro e w4 ⟨rfl, hb4⟩; have hb14 := nx hb13 hb4; have d34 := (H2.keep hb14).b3.cell)
          | (go_at_call 33; (with_reducible refine (HB.out _ (HTV.out.below hb14 (Nat.le_refl _))).mono ?_); rintro e w5 ⟨rfl, hb5⟩; have hb15 := nx hb14 hb5; have H5 := H2.keep hb15; have d35 := H5.b3.cell; have f35 := H5.b3.frozen; have H6 := H5.count (done.length + 1) (x := ((done.length : Nat) : Int) + 1) (by omega); have d46 := H6.b4.cell; have hs6 := H6.sz)
          | (at_builtin; refine wpList_append_own _ rfl _ _ 27 rfl (w1.heap.size + 4) 21 i0 (.int .i32 0) 1 4 Tryd.underlying27 hi hz0 hz1 hz2 rfl (by decide) v4 _ _ rfl (H6.r4.alloc _) ⟨_, 0, none⟩ 1 1 [.int .i32 (r : Nat)] rfl (by simp) (cells_new_set _ _ _ _ _) (by simp [Value.oneCell']) (by unfold maxLen; omega) (by omega) (by rw [World.size_alloc]; omega) ?_; intro v4' w6 hown6 hgrow6 _; obtain ⟨ga4, gc4, rfl⟩ := owned_slice hown6; obtain ⟨hv6, H7, hk7⟩ := H6.put4 HG.out hown6 hgrow6; have d46' := hv6.cell; have f46 := hv6.frozen; have d57 := H7.b5.cell; have hs7 := H7.sz; clear hown6 hgrow6)
          | (at_builtin; refine wpList_append_own _ rfl _ _ 53 rfl (w1.heap.size + 4) 3 i1 (.int .i64 0) 1 8 Tryd.underlying53 hi' hy0 hy1 hy2 rfl (by decide) v5 _ _ rfl (H7.r5.alloc _) ⟨_, 0, none⟩ 1 1 [.int .i64 (p : Nat)] rfl (by simp) (cells_new_set _ _ _ _ _) (by simp [Value.oneCell']) (by unfold maxLen; omega) (by omega) (by rw [World.size_alloc]; omega) ?_; intro v5' w8 hown8 hgrow8 _; obtain ⟨ga5, gc5, rfl⟩ := owned_slice hown8; obtain ⟨hv8, H9, hk9⟩ := H7.put5 HAT.out hown8 hgrow8; have d58' := hv8.cell; have f58 := hv8.frozen; clear hown8 hgrow8))
        have hit9 := hk9.same _ _ (hk7.same _ _ ((KeepsOthers.setCell w5 ⟨w1.heap.size, 0, none⟩ (.int .i64 ((done.length : Int) + 1))).same _ _ ((hb15.block _ (Array.getElem?_eq_some_iff.1 HIT.out).1).trans HIT.out) rfl) rfl) rfl
        go_roundw
        case rel => exact ⟨_, _, _, _, HS.out, hit9, by rw [List.length_append, List.length_singleton]; exact H9⟩
        case measure => rw [iterPos_of hit9, HIP.out]; omega
      · have hnx := fun ty => Lib.run_next_end_at (P := Tryd.prog) wr (w1.heap.size + 1 + 1 + 1) t p ty hit (by omega)
        have hE := (hc.end' hp).1
        have hn : done.length = countN l := by rw [hE]; rfl
        rw [hn] at H
        clear hE hc hit hn hcl
        obtain ⟨n, hn⟩ : ∃ n, countN l = n := ⟨_, rfl⟩
        have HN := Lib.hid hn
        rw [hn] at H hct
        clear hn
        obtain ⟨Z, hZ⟩ : ∃ Z, runesZ l = Z := ⟨_, rfl⟩
        have hZl : Z.length = n := by rw [← hZ, runesZ_len, HN.out]
        have HZL := Lib.hid hZl
        have hr4 : wr.ownsRow (w1.heap.size + 4) 21 1 v4 n (Z.map (Value.int .i32)) := by
          have := H.r4
          rw [← HN.out, rns_full, hZ, HN.out] at this
          exact this
        obtain ⟨a4, c4, e4, -, R4⟩ := ReadsI.owned hr4
        rw [hZl] at e4
        subst e4
        have HC := Lib.hid (c_count t (by omega) n (by rw [HL.out, HN.out]))
        have HRT := Lib.hid (runes_any t (by omega))
        simp only [HL.out, hZ, HN.out] at HRT
        have HST := Lib.hid (fun a c b d W (RA : ReadsI W .i32 a Z) (RB : ReadsI W .i32 b Z) => sameRunes_any a b c d Z Z (by omega) W RA RB)
        simp only [sameZ_self, hZl] at HST
        have hrf : Conv.runesFrom t t.size 0 #[] = (Z.map (Value.int .i32)).toArray := by rw [runesFrom_all, HL.out, hZ]
        have hcv1 : ∀ W, (convert 9 27 (.string t)).run Tryd.prog W = .ok (.slice (some ⟨W.heap.size, 0, none⟩) n (grownCap W n 0 21)) (W.drew.alloc (.cells ((Z.map (Value.int .i32)).toArray ++ Array.replicate (grownCap W n 0 21 - n) (.int .i32 0)) 21)) := by
          intro W
          have := run_runes_of_string (P := Tryd.prog) W 9 27 21 t Tryd.underlying9 Tryd.underlying27 Tryd.underlying21 (by rw [hrf]; simp [hZl]; omega)
          rw [hrf] at this
          simpa [hZl] using this
        have hS := And.intro H.b3.cell (And.intro H.b4.cell (Below.refl wr.heap.size wr))
        clear hrf hZ hZl hr4
        go_wp2_with fail
        refine wp_region_noPanic ?_
        go_region_held_law (fun w' => w'.cell? ⟨w1.heap.size, 0, none⟩ = some (.int .i64 (n : Nat)) ∧ w'.cell? ⟨w1.heap.size + 1, 0, none⟩ = some (.slice a4 n c4) ∧ Below wr.heap.size wr w') (first | (with_reducible assumption) | (with_reducible exact c2_keep (by assumption) (by assumption)) | (with_reducible exact c2_keep hS (Below.refl _ _).drew) | (with_reducible exact c2_keep (by assumption) (((Below.refl _ _).alloc (Nat.le_refl _) _).drew)))
          (first
            | (go_at_call 19; (with_reducible refine (HC.out _).mono ?_); rintro e w10 ⟨rfl, hb10⟩; have hV10 : Below wr.heap.size wr w10 := nx (Below.refl _ wr).drew hb10)
            | (go_at_call 22; (with_reducible refine (HRT.out _).mono ?_); rintro e w11 ⟨v11, rfl, hv11, hb11⟩; obtain ⟨a8, c8, e8, -, R8⟩ := ReadsI.owned (zs := Z) hv11; rw [HZL.out] at e8; subst e8; have hV11 : Below wr.heap.size wr w11 := nx hV10 hb11)
            | (go_at_call 21; (with_reducible refine (HST.out a8 c8 a4 c4 w11 R8 (R4.below hV11 (Nat.le_refl _))).mono ?_); rintro e w12 ⟨rfl, hb12⟩; have hV12 := nx hV11 hb12)
            | (go_at_call 21; (with_reducible refine (HST.out _ _ a4 c4 _ (reads_conv _ _ _ _) (R4.below (nx hV12 (((Below.refl _ _).alloc (Nat.le_refl _) _).drew)) (Nat.le_refl _))).mono ?_); rintro e w13 ⟨rfl, hb13⟩; have hV13 := nx (nx hV12 (((Below.refl _ _).alloc (Nat.le_refl _) _).drew)) hb13))
        all_goals
          refine NoPanic.normal ?_
          have H13 := H.keep hV13
          have HFULL := Lib.hid (show atN l n = t.size by rw [← HN.out, atN_full, hlt0])
          clear HAW HC HRT HST hcv1 hS hb10 hV10 hb11 R8 hv11 hV11 hb12 hV12 hb13 R4 hnx H hV13
          have d53 := H13.b5.cell
          have hs13 := H13.sz
          go_wp2_with (first
            | (at_builtin; refine wpList_append_own _ rfl _ _ 53 rfl (w1.heap.size + 4) 3 i1 (.int .i64 0) 1 8 Tryd.underlying53 hi' hy0 hy1 hy2 rfl (by decide) v5 _ _ rfl (H13.r5.alloc _) ⟨_, 0, none⟩ 1 1 [.int .i64 (t.size : Nat)] rfl (by simp) (cells_new _ _ _) (by simp [Value.oneCell']) (by unfold maxLen; omega) (by omega) (by rw [World.size_alloc]; omega) ?_; intro v5' w14 hown14 hgrow14 _; obtain ⟨ga5, gc5, rfl⟩ := owned_slice hown14; obtain ⟨hv14, H15, hk15⟩ := H13.put5 HFULL.out hown14 hgrow14; have d54 := hv14.cell; have f54 := hv14.frozen; clear hown14 hgrow14)
            | (go_at_call 37; (with_reducible refine (all_in t _).mono ?_); rintro e w15 ⟨rfl, rfl⟩))
          obtain ⟨Wc, hWc⟩ : ∃ Wc, w14.setCell ⟨w1.heap.size + 1 + 1, 0, none⟩ (.slice ga5 (n + 1) gc5) = Wc := ⟨_, rfl⟩
          have hsz14 : w14.heap.size = Wc.heap.size := by rw [← hWc]; exact (size_setCell _ _ _).symm
          rw [hWc, hsz14]
          rw [hWc] at H15
          clear hsz14 hWc hv14 d54 f54 d53 H13 hs13 hk15
          have hFA : ∀ W, Below Wc.heap.size Wc W → Boxed W w.heap.size 4 (.bool false) ∧ W.cell? ⟨w1.heap.size, 0, none⟩ = some (.int .i64 (n : Nat)) ∧ W.cell? ⟨w1.heap.size + 1, 0, none⟩ = some (.slice a4 n c4) ∧ W.cell? ⟨w1.heap.size + 1 + 1, 0, none⟩ = some (.slice ga5 (n + 1) gc5) ∧ (0 < n → ∃ g o, a4 = some ⟨g, o, none⟩ ∧ ∀ i, i < n → W.cell? ⟨g, o + i, none⟩ = some (.int .i32 (((tk l)[i]?.getD (0, 0)).1 : Nat))) ∧ (∃ g o, ga5 = some ⟨g, o, none⟩ ∧ ∀ i, i < n + 1 → W.cell? ⟨g, o + i, none⟩ = some (.int .i64 (atN l i : Nat))) := by
            intro W hb
            have K := H15.keep hb
            refine ⟨(K.bel.block _ b2c.lt).trans b2c, K.b3.cell, K.b4.cell, K.b5.cell, fun h0 => ?_, ?_⟩
            · rcases K.reads4 HN.out with h | ⟨g, o, e, hc⟩
              · have := congrArg List.length h
                rw [runesZ_len, HN.out] at this
                simp at this
                omega
              · exact ⟨g, o, e, fun i hi => by rw [hc i (by rw [runesZ_len, HN.out]; exact hi), runesZ_get l i (by rw [HN.out]; exact hi)]⟩
            · rcases K.reads5 with h | ⟨g, o, e, hc⟩
              · have := congrArg List.length h
                rw [plz_len] at this
                simp at this
              · exact ⟨g, o, e, fun i hi => by rw [hc i (by rw [plz_len]; exact hi), plz_get l _ i hi]⟩
          have FA := Lib.hid hFA
          have hbwc : Below w.heap.size w Wc := hbw1.trans (H15.bel.mono hbw1.size)
          have hszc : w.heap.size < Wc.heap.size := by have h1 := b2c.lt; have h2 := H15.sz; omega
          clear hFA
          have b7X := (Boxed.new Wc 3 (.int .i64 0)).alloc (.cells #[.string t] 9)
          have b8X := Boxed.new (Wc.alloc (.cells #[.int .i64 0] 3)) 9 (.string t)
          rw [World.size_alloc] at b8X
          have hbX : Below Wc.heap.size Wc ((Wc.alloc (.cells #[.int .i64 0] 3)).alloc (.cells #[.string t] 9)) := al (al (Below.refl _ _) _) _
          have hszX : Wc.heap.size + 1 + 1 ≤ ((Wc.alloc (.cells #[.int .i64 0] 3)).alloc (.cells #[.string t] 9)).heap.size := by rw [World.size_alloc, World.size_alloc]; exact Nat.le_refl _
          obtain ⟨X0, hX⟩ : ∃ X0, (Wc.alloc (.cells #[.int .i64 0] 3)).alloc (.cells #[.string t] 9) = X0 := ⟨_, rfl⟩
          rw [hX] at b7X b8X hbX hszX ⊢
          clear hX
          have hst0 := all_stops (9 - 1) (by decide) (Wc.heap.size + 1) w.heap.size t X0 b8X.cell
          rw [HL.out, HN.out] at hst0
          have h7X := b7X.lt
          refine (wpIn_wide (n := 9)).1 ?_
          refine' wpIn_rangeFunc_ownG rfl (by decide) (gf := 56) (lb := #[.pointer (some ⟨(Wc.heap.size + 1), 0, none⟩)]) rfl trivial (enters_of Tryd.func56 (by kernel_rfl) rfl)
            hst0 kpB_t (kpB_b (by omega)) (Below.refl _ _) (fun _ => rfl)
            (fun (pre : List (Nat × Nat)) W => pre = ups (allF l) pre.length ∧ Boxed W Wc.heap.size 3 (.int .i64 (pre.length : Nat)) ∧ X0.grownBy W (some Wc.heap.size))
            (fun c (pre : List (Nat × Nat)) _ => c = .ret ∧ ¬ pre <+: ups (allF l) n)
            (OwnFrom.and (ownFrom_pure _ (fun (pre : List (Nat × Nat)) => pre = ups (allF l) pre.length)) (OwnFrom.and (Own.from (boxed_own _ _ (fun (pre : List (Nat × Nat)) => .int .i64 (pre.length : Nat))) _) (ownFrom_gr X0 Wc.heap.size)))
            (fun _ _ _ _ _ hs _ _ => hs)
            ⟨rfl, b7X, gr_refl _ _⟩ _ ?assign0 ?body0 ?done0 ?stop0
          case assign0 =>
            intro q x W K hK
            dsimp only [encP]
            gi_wp2
            exact hK
          case body0 =>
            rintro q pre ⟨x1, x2⟩ W ⟨hpre, c7, hgr⟩ hge
            have hbW : Below Wc.heap.size Wc W := gr_below hbX hgr (by omega) (by omega)
            have hle : pre.length ≤ 3000 := by omega
            obtain ⟨c2, d3, d4, d5, R4, R5⟩ := FA.out W hbW
            have d7 := c7.cell
            have f7 := c7.frozen
            have hk0 : (0 : Int) ≤ (pre.length : Int) := by omega
            have hki : (pre.length : Int) < (n : Int) := by omega
            have hjn : pre.length < n := hge
            have d2 := c2.cell
            have f2 := c2.frozen
            obtain ⟨g4, o4, rfl, hc4⟩ := R4 (by omega)
            obtain ⟨g5, o5, rfl, hc5⟩ := R5
            have z4 := hc4 pre.length hjn
            have z5 := hc5 pre.length (by omega)
            clear hc4 hc5 R4
            obtain ⟨y1, hy1⟩ : ∃ y, atN l pre.length = y := ⟨_, rfl⟩
            obtain ⟨y2, hy2⟩ : ∃ y, ((tk l)[pre.length]?.getD (0, 0)).1 = y := ⟨_, rfl⟩
            rw [hy1] at z5
            rw [hy2] at z4
            have hF : allF l pre.length = (y1, y2) := by unfold allF; rw [hy1, hy2]
            have HPRE := Lib.hid hpre
            have HF := Lib.hid hF
            clear hy1 hy2 hF hpre hge
            by_cases h1 : x1 = y1
            · subst h1
              by_cases h2 : x2 = y2
              · subst h2
                have HP := Lib.hid (show pre ++ [(x1, x2)] = ups (allF l) (pre ++ [(x1, x2)]).length by rw [← HF.out]; exact ups_step HPRE.out)
                gi_wp2
                refine ⟨(KeepsOthers.setCell _ _ _).from _, ⟨(KeepsOthers.setCell _ _ _).walks, (Below.refl _ W).setCell (p := ⟨Wc.heap.size, 0, none⟩) (show w.heap.size ≤ Wc.heap.size by omega) _⟩, HP.out, ?_, gr_trans hgr (grownBy_setCell' _ _ _)⟩
                rw [List.length_append, List.length_singleton, Int.natCast_add]
                exact c7.set _
              · have hd2 : ((x2 : Int) != (y2 : Int)) = true := bne_iff_ne.2 (by omega)
                have HM := Lib.hid (ups_mism (f := allF l) (pre := pre) (x := (x1, x2)) (by rw [HF.out]; intro e; injection e with e1 e2; exact h2 e2) n)
                clear h2
                gi_wp2
                exact ⟨(KeepsOthers.setCell _ _ _).from _, ⟨rfl, HM.out⟩⟩
            · have hd1 : ((x1 : Int) != (y1 : Int)) = true := bne_iff_ne.2 (by omega)
              have HM := Lib.hid (ups_mism (f := allF l) (pre := pre) (x := (x1, x2)) (by rw [HF.out]; intro e; injection e with e1 e2; exact h1 e1) n)
              clear h1
              gi_wp2
              exact ⟨(KeepsOthers.setCell _ _ _).from _, ⟨rfl, HM.out⟩⟩
          case stop0 =>
            rintro D c pre W hD ⟨k', hk', rfl⟩ ⟨rfl, hnp⟩ hK
            exact absurd (ups_prefix _ hk') hnp
          case done0 =>
            rintro D0 ys V0 hD0 rfl ⟨-, b7V, hgr⟩ kD0V
            rw [ups_length] at b7V
            have hbV : Below Wc.heap.size Wc V0 := gr_below hbX hgr (by omega) (by omega)
            have hszV := hgr.size
            have h7V := b7V.lt
            have d7V := b7V.cell
            obtain ⟨-, d3V, -, -, -, -⟩ := FA.out V0 hbV
            have hD0' : Wc.heap.size + 1 + 1 ≤ D0 := Nat.le_trans hszX hD0
            have lD0 : D0 < V0.heap.size := (Array.getElem?_eq_some_iff.1 kD0V).1
            clear b7X b8X hbX hszX h7X hgr
            go_wp2_with (first
              | (go_at_call 38; (with_reducible refine (back_in t _).mono ?_); rintro e w15 ⟨rfl, rfl⟩))
            have b7X := b7V.alloc (.cells #[.string t] 9)
            have b8X := Boxed.new V0 9 (.string t)
            have hbX : Below Wc.heap.size Wc (V0.alloc (.cells #[.string t] 9)) := al hbV _
            have hszX : V0.heap.size + 1 ≤ (V0.alloc (.cells #[.string t] 9)).heap.size := by rw [World.size_alloc]; exact Nat.le_refl _
            have kD0X := (KeepsOthers.alloc V0 (.cells #[.string t] 9)).same D0 _ kD0V rfl
            obtain ⟨X1, hX⟩ : ∃ X1, V0.alloc (.cells #[.string t] 9) = X1 := ⟨_, rfl⟩
            rw [hX] at b7X b8X hbX hszX kD0X ⊢
            clear hX
            have hst1 := back_stops (9 - 1) (by decide) V0.heap.size w HT.out t (by omega) X1 (hbwc.trans (hbX.mono hbwc.size)) b8X.cell
            rw [HL.out, HN.out] at hst1
            have h7X := b7X.lt
            refine (wpIn_wide (n := 9)).1 ?_
            refine' wpIn_rangeFunc_ownG rfl (by decide) (gf := 57) (lb := #[.pointer (some ⟨V0.heap.size, 0, none⟩)]) rfl trivial (enters_of Tryd.func57 (by kernel_rfl) rfl)
              hst1 kpB_t (kpB_b (by omega)) (Below.refl _ _) (fun _ => rfl)
              (fun (pre : List (Nat × Nat)) W => pre = ups (backF l) pre.length ∧ Boxed W Wc.heap.size 3 (.int .i64 ((n : Int) - (pre.length : Nat))) ∧ X1.grownBy W (some Wc.heap.size))
              (fun c (pre : List (Nat × Nat)) _ => c = .ret ∧ ¬ pre <+: ups (backF l) n)
              (OwnFrom.and (ownFrom_pure _ (fun (pre : List (Nat × Nat)) => pre = ups (backF l) pre.length)) (OwnFrom.and (Own.from (boxed_own _ _ (fun (pre : List (Nat × Nat)) => .int .i64 ((n : Int) - (pre.length : Nat)))) _) (ownFrom_gr X1 Wc.heap.size)))
              (fun _ _ _ _ _ hs _ _ => hs)
              ⟨rfl, by simpa using b7X, gr_refl _ _⟩ _ ?assign1 ?body1 ?done1 ?stop1
            case assign1 =>
              intro q x W K hK
              dsimp only [encP]
              gi_wp2
              exact hK
            case body1 =>
              rintro q pre ⟨x1, x2⟩ W ⟨hpre, c7, hgr⟩ hge
              have hbW : Below Wc.heap.size Wc W := gr_below hbX hgr (by omega) (by omega)
              have hle : pre.length ≤ 3000 := by omega
              obtain ⟨j, hj⟩ : ∃ j, n = pre.length + 1 + j := ⟨n - pre.length - 1, by omega⟩
              have hjj : n - 1 - pre.length = j := by omega
              have hk0 : (0 : Int) ≤ (j : Int) := by omega
              have hki : (j : Int) < (n : Int) := by omega
              have hjn : j < n := by omega
              have hjl : j ≤ 3000 := by omega
              have ek : ((n : Int) - (pre.length : Nat)) = (j : Int) + 1 := by omega
              rw [ek] at c7
              have HJ := Lib.hid hj
              have hbS : Below Wc.heap.size Wc (W.setCell ⟨Wc.heap.size, 0, none⟩ (.int .i64 (j : Nat))) := hbW.setCell (p := ⟨Wc.heap.size, 0, none⟩) (Nat.le_refl _) _
              have d7 := c7.cell
              have f7 := c7.frozen
              have c7S := c7.set (.int .i64 (j : Nat))
              have d7S := c7S.cell
              obtain ⟨c2, d3, d4, d5, R4, R5⟩ := FA.out _ hbS
              clear hj ek
              have d2 := c2.cell
              have f2 := c2.frozen
              obtain ⟨g4, o4, rfl, hc4⟩ := R4 (by omega)
              obtain ⟨g5, o5, rfl, hc5⟩ := R5
              have z4 := hc4 j hjn
              have z5 := hc5 j (by omega)
              clear hc4 hc5 R4
              obtain ⟨y1, hy1⟩ : ∃ y, atN l j = y := ⟨_, rfl⟩
              obtain ⟨y2, hy2⟩ : ∃ y, ((tk l)[j]?.getD (0, 0)).1 = y := ⟨_, rfl⟩
              rw [hy1] at z5
              rw [hy2] at z4
              have hF : backF l pre.length = (y1, y2) := by unfold backF allF; rw [HN.out, hjj, hy1, hy2]
              have HPRE := Lib.hid hpre
              have HF := Lib.hid hF
              clear hy1 hy2 hF hpre hge hjj
              by_cases h1 : x1 = y1
              · subst h1
                by_cases h2 : x2 = y2
                · subst h2
                  have HP := Lib.hid (show pre ++ [(x1, x2)] = ups (backF l) (pre ++ [(x1, x2)]).length by rw [← HF.out]; exact ups_step HPRE.out)
                  gi_wp2
                  refine ⟨(KeepsOthers.setCell _ _ _).from _, ⟨(KeepsOthers.setCell _ _ _).walks, (Below.refl _ W).setCell (p := ⟨Wc.heap.size, 0, none⟩) (show w.heap.size ≤ Wc.heap.size by omega) _⟩, HP.out, ?_, gr_trans hgr (grownBy_setCell' _ _ _)⟩
                  have e : ((n : Int) - ((pre ++ [(x1, x2)]).length : Nat)) = (j : Int) := by have := HJ.out; rw [List.length_append, List.length_singleton]; omega
                  rw [e]
                  exact c7S
                · have hd2 : ((x2 : Int) != (y2 : Int)) = true := bne_iff_ne.2 (by omega)
                  have HM := Lib.hid (ups_mism (f := backF l) (pre := pre) (x := (x1, x2)) (by rw [HF.out]; intro e; injection e with e1 e2; exact h2 e2) n)
                  clear h2
                  gi_wp2
                  exact ⟨((KeepsOthers.setCell _ _ _).trans (KeepsOthers.setCell _ _ _)).from _, ⟨rfl, HM.out⟩⟩
              · have hd1 : ((x1 : Int) != (y1 : Int)) = true := bne_iff_ne.2 (by omega)
                have HM := Lib.hid (ups_mism (f := backF l) (pre := pre) (x := (x1, x2)) (by rw [HF.out]; intro e; injection e with e1 e2; exact h1 e1) n)
                clear h1
                gi_wp2
                exact ⟨((KeepsOthers.setCell _ _ _).trans (KeepsOthers.setCell _ _ _)).from _, ⟨rfl, HM.out⟩⟩
            case stop1 =>
              rintro D c pre W hD ⟨k', hk', rfl⟩ ⟨rfl, hnp⟩ hK
              exact absurd (ups_prefix _ hk') hnp
            case done1 =>
              rintro D1 ys V1 hD1 rfl ⟨-, b7V, hgr⟩ kD1V
              rw [ups_length] at b7V
              have hbV : Below Wc.heap.size Wc V1 := gr_below hbX hgr (by omega) (by omega)
              have hszV := hgr.size
              have h7V := b7V.lt
              have d7V := b7V.cell
              obtain ⟨-, d3V, -, -, -, -⟩ := FA.out V1 hbV
              have hD1' : V0.heap.size + 1 ≤ D1 := Nat.le_trans hszX hD1
              have lD1 : D1 < V1.heap.size := (Array.getElem?_eq_some_iff.1 kD1V).1
              have kD0V1 : V1.heap[D0]? = some (.deferred (some [])) := (hgr.block _ (Array.getElem?_eq_some_iff.1 kD0X).1 (by simp; omega)).trans kD0X
              have hszV1 : V0.heap.size + 1 ≤ V1.heap.size := Nat.le_trans hszX hszV
              clear b7X b8X hbX hszX h7X hgr kD0X kD0V
              rw [Int.sub_self] at b7V
              have d7V := b7V.cell
              go_wp2_with (first
                | (go_at_call 35; (with_reducible refine (wrong_in t _).mono ?_); rintro e w15 ⟨rfl, rfl⟩))
              have b7X := b7V.alloc (.cells #[.string t] 9)
              have b8X := Boxed.new V1 9 (.string t)
              have hbX : Below Wc.heap.size Wc (V1.alloc (.cells #[.string t] 9)) := al hbV _
              have hszX : V1.heap.size + 1 ≤ (V1.alloc (.cells #[.string t] 9)).heap.size := by rw [World.size_alloc]; exact Nat.le_refl _
              have kD0X := (KeepsOthers.alloc V1 (.cells #[.string t] 9)).same D0 _ kD0V1 rfl
              have kD1X := (KeepsOthers.alloc V1 (.cells #[.string t] 9)).same D1 _ kD1V rfl
              obtain ⟨X2, hX⟩ : ∃ X2, V1.alloc (.cells #[.string t] 9) = X2 := ⟨_, rfl⟩
              rw [hX] at b7X b8X hbX hszX kD0X kD1X ⊢
              clear hX d7V kD0V1 kD1V
              have hst2 := wrong_stops (9 - 1) (by decide) V1.heap.size w HT.out t X2 (hbwc.trans (hbX.mono hbwc.size)) b8X.cell
              rw [HL.out, HN.out] at hst2
              have h7X := b7X.lt
              refine (wpIn_wide (n := 9)).1 ?_
              refine' wpIn_rangeFunc_ownG rfl (by decide) (gf := 55) (lb := #[.pointer (some ⟨V1.heap.size, 0, none⟩)]) rfl trivial (enters_of Tryd.func55 (by kernel_rfl) rfl)
                hst2 kpW_t (kpW_b (by omega) (by omega)) (Below.refl _ _) (fun _ => rfl)
                (fun (pre : List Nat) W => (∃ j, j ≤ n ∧ pre = wrTo l j ∧ Boxed W Wc.heap.size 3 (.int .i64 (j : Nat))) ∧ X2.grownBy W (some Wc.heap.size))
                (fun c (pre : List Nat) _ => c = .ret ∧ ¬ pre <+: wrTo l n)
                (OwnFrom.and (fun s A B row hs hg hr => hs.imp fun j h => ⟨h.1, h.2.1, boxed_own (β := List Nat) Wc.heap.size 3 (fun _ => .int .i64 (j : Nat)) s A B row h.2.2 hg (fun r e => (hr r e).2)⟩) (ownFrom_gr X2 Wc.heap.size))
                (fun _ _ _ _ _ hs _ _ => hs)
                ⟨⟨0, Nat.zero_le _, by simp [wrTo], b7X⟩, gr_refl _ _⟩ _ ?assign2 ?body2 ?done2 ?stop2
              case assign2 =>
                intro q x W K hK
                dsimp only [encW]
                gi_wp2
                exact hK
              case body2 =>
                rintro q pre x W ⟨⟨j, hj, hpre, c7⟩, hgr⟩ hge
                have HPRE := Lib.hid hpre
                have h7W := c7.lt
                have hszW := hgr.size
                clear hpre hge
                gi_wp2
                gi_loopw [] (fun wr => ∃ i, j ≤ i ∧ i ≤ n ∧ wrTo l i = wrTo l j ∧ Boxed wr Wc.heap.size 3 (.int .i64 (i : Nat)) ∧ W.grownBy wr (some Wc.heap.size) ∧ KeepsOthers W wr) (fun wr => n - boxN wr Wc.heap.size)
                case atStart => exact ⟨j, Nat.le_refl _, hj, rfl, c7, gr_refl _ _, KeepsOthers.refl _⟩
                case round =>
                  obtain ⟨i, hji, hin, hwr, c7r, hgw, hkr⟩ := hrel
                  have hbW : Below Wc.heap.size Wc wr := gr_below hbX (gr_trans hgr hgw) (by omega) (by omega)
                  obtain ⟨c2, d3, d4, d5, R4, R5⟩ := FA.out wr hbW
                  have d2 := c2.cell
                  have f2 := c2.frozen
                  have d7 := c7r.cell
                  have f7 := c7r.frozen
                  have hi3 : i ≤ 3000 := by omega
                  have HBN := Lib.hid (boxN_of c7r)
                  have HWR := Lib.hid hwr
                  clear hwr
                  by_cases hlt : i < n
                  · obtain ⟨g4, o4, rfl, hc4⟩ := R4 (by omega)
                    obtain ⟨g5, o5, rfl, hc5⟩ := R5
                    have z4 := hc4 i hlt
                    have z5 := hc5 i (by omega)
                    have z6 := hc5 (i + 1) (by omega)
                    have hat := atN_succ l i (by rw [HN.out]; exact hlt)
                    have hw4 := (tk_wid l ((tk l)[i]?.getD (0, 0)) (by rw [List.getElem?_eq_getElem (show i < (tk l).length by have := HN.out; unfold countN at this; omega)]; exact List.getElem_mem _))
                    obtain ⟨d, hd⟩ : ∃ d, ((tk l)[i]?.getD (0, 0)).2 = d := ⟨_, rfl⟩
                    obtain ⟨y, hy⟩ : ∃ y, ((tk l)[i]?.getD (0, 0)).1 = y := ⟨_, rfl⟩
                    rw [hd] at hat hw4
                    have HW := Lib.hid (isWrong_of hy hat (by rw [HN.out]; exact hlt))
                    have hp3 : atN l i ≤ 3000 := by have := (cut_at l i (by rw [HN.out]; exact hin)).1; omega
                    obtain ⟨p', hp'⟩ : ∃ p', atN l i = p' := ⟨_, rfl⟩
                    rw [hat, hp', Int.natCast_add] at z6
                    rw [hp'] at z5 hp3
                    rw [hy] at z4
                    have HP := Lib.hid hp'
                    have hki : (i : Int) < (n : Int) := by omega
                    have hk0 : (0 : Int) ≤ (i : Int) := by omega
                    have hd1' := hw4.1
                    have hd4' := hw4.2
                    clear hc4 hc5 R4 hat hd hy hp' hw4
                    by_cases h2 : y = 65533
                    · subst h2
                      by_cases h1 : d = 1
                      · subst h1
                        have HYW := Lib.hid (show isWrong l i = true by rw [HW.out]; rfl)
                        by_cases hx : p' = x
                        · subst hx
                          gi_wp2
                          refine quiet_round rfl (by kernel_rfl) (by kernel_rfl) ?_
                          repeat (gi_big_quiet_step (fail))
                          refine wpQuietIn_nil ?_
                          intro _ hw'
                          obtain ⟨nq, hw''⟩ := hw'
                          subst hw''
                          have hgY : W.grownBy (wr.drewN nq) (some Wc.heap.size) := gr_trans hgw (gr_drewN _ _ _)
                          have hkY : KeepsOthers W (wr.drewN nq) := hkr.trans (ko_drewN _ _)
                          have c7Y : Boxed (wr.drewN nq) Wc.heap.size 3 (.int .i64 (i : Nat)) := c7r
                          have c2Y : Boxed (wr.drewN nq) w.heap.size 4 (.bool false) := c2
                          have d3Y : (wr.drewN nq).cell? ⟨w1.heap.size, 0, none⟩ = some (.int .i64 (n : Nat)) := d3
                          have d5Y : (wr.drewN nq).cell? ⟨w1.heap.size + 1 + 1, 0, none⟩ = some (.slice (some ⟨g5, o5, none⟩) (n + 1) gc5) := d5
                          have z5Y : (wr.drewN nq).cell? ⟨g5, o5 + i, none⟩ = some (.int .i64 (p' : Nat)) := z5
                          obtain ⟨Y, hY⟩ : ∃ Y, wr.drewN nq = Y := ⟨_, rfl⟩
                          rw [hY] at d5Y z5Y
                          rw [hY] at hgY hkY c7Y c2Y d3Y ⊢
                          clear hY
                          have d2Y := c2Y.cell
                          have f2Y := c2Y.frozen
                          have d7Y := c7Y.cell
                          have f7Y := c7Y.frozen
                          gi_wp2
                          have hgZ := gr_trans hgY (grownBy_setCell' Y Wc.heap.size (.int .i64 ((i : Int) + 1)))
                          have hkZ := hkY.trans (KeepsOthers.setCell Y ⟨Wc.heap.size, 0, none⟩ (.int .i64 ((i : Int) + 1)))
                          refine ⟨hkZ.from _, ⟨⟨hkZ.walks, gr_below (Below.refl _ W) hgZ (by omega) (by omega)⟩, hgZ.block _ (by omega) (by simp; omega)⟩, ⟨i + 1, by omega, by rw [wrTo_yes l i HYW.out, HP.out, HPRE.out, HWR.out], by rw [Int.natCast_add]; exact c7Y.set _⟩, gr_trans hgr hgZ⟩
                        · have hx1 : ((p' : Int) != (x : Int)) = true := bne_iff_ne.2 (by omega)
                          have HM := Lib.hid (wr_other (HPRE.out.trans HWR.out.symm) hlt HYW.out (by rw [HP.out]; exact hx))
                          clear hx
                          gi_wp2
                          refine quiet_round rfl (by kernel_rfl) (by kernel_rfl) ?_
                          repeat (gi_big_quiet_step (fail))
                          refine wpQuietIn_nil ?_
                          intro _ hw'
                          obtain ⟨nq, hw''⟩ := hw'
                          subst hw''
                          have hgY : W.grownBy (wr.drewN nq) (some Wc.heap.size) := gr_trans hgw (gr_drewN _ _ _)
                          have hkY : KeepsOthers W (wr.drewN nq) := hkr.trans (ko_drewN _ _)
                          have c7Y : Boxed (wr.drewN nq) Wc.heap.size 3 (.int .i64 (i : Nat)) := c7r
                          have c2Y : Boxed (wr.drewN nq) w.heap.size 4 (.bool false) := c2
                          have d3Y : (wr.drewN nq).cell? ⟨w1.heap.size, 0, none⟩ = some (.int .i64 (n : Nat)) := d3
                          have d5Y : (wr.drewN nq).cell? ⟨w1.heap.size + 1 + 1, 0, none⟩ = some (.slice (some ⟨g5, o5, none⟩) (n + 1) gc5) := d5
                          have z5Y : (wr.drewN nq).cell? ⟨g5, o5 + i, none⟩ = some (.int .i64 (p' : Nat)) := z5
                          obtain ⟨Y, hY⟩ : ∃ Y, wr.drewN nq = Y := ⟨_, rfl⟩
                          rw [hY] at d5Y z5Y
                          rw [hY] at hgY hkY c7Y c2Y d3Y ⊢
                          clear hY
                          have d2Y := c2Y.cell
                          have f2Y := c2Y.frozen
                          have d7Y := c7Y.cell
                          have f7Y := c7Y.frozen
                          gi_wp2
                          exact ⟨(hkY.trans (KeepsOthers.setCell _ _ _)).from _, rfl, HM.out⟩
                      · have hd1 : ((d : Int) != 1) = true := bne_iff_ne.2 (by omega)
                        have HNW := Lib.hid (show isWrong l i = false by rw [HW.out, beq_eq_false_iff_ne.2 (show (d : Int) ≠ 1 by omega), Bool.and_false])
                        clear h1
                        gi_wp2
                        refine quiet_round rfl (by kernel_rfl) (by kernel_rfl) ?_
                        repeat (gi_big_quiet_step (fail))
                        refine wpQuietIn_nil ?_
                        intro _ hw'
                        obtain ⟨nq, hw''⟩ := hw'
                        subst hw''
                        have hgY : W.grownBy (wr.drewN nq) (some Wc.heap.size) := gr_trans hgw (gr_drewN _ _ _)
                        have hkY : KeepsOthers W (wr.drewN nq) := hkr.trans (ko_drewN _ _)
                        have c7Y : Boxed (wr.drewN nq) Wc.heap.size 3 (.int .i64 (i : Nat)) := c7r
                        have c2Y : Boxed (wr.drewN nq) w.heap.size 4 (.bool false) := c2
                        have d3Y : (wr.drewN nq).cell? ⟨w1.heap.size, 0, none⟩ = some (.int .i64 (n : Nat)) := d3
                        obtain ⟨Y, hY⟩ : ∃ Y, wr.drewN nq = Y := ⟨_, rfl⟩
                        rw [hY] at hgY hkY c7Y c2Y d3Y ⊢
                        clear hY
                        have d2Y := c2Y.cell
                        have f2Y := c2Y.frozen
                        have d7Y := c7Y.cell
                        have f7Y := c7Y.frozen
                        gi_wp2
                        have e : boxN (Y.setCell ⟨Wc.heap.size, 0, none⟩ (.int .i64 ((i : Int) + 1))) Wc.heap.size = i + 1 := by rw [boxN_of (c7Y.set _)]; omega
                        go_roundw
                        case rel => exact ⟨i + 1, by omega, by omega, by rw [wrTo_no l i HNW.out]; exact HWR.out, by rw [Int.natCast_add]; exact c7Y.set _, gr_trans hgY (grownBy_setCell' _ _ _), hkY.trans (KeepsOthers.setCell _ _ _)⟩
                        case measure => rw [e, HBN.out, Int.toNat_natCast]; omega
                    · have hd1 : ((y : Int) != 65533) = true := bne_iff_ne.2 (by omega)
                      have HNW := Lib.hid (show isWrong l i = false by rw [HW.out, beq_eq_false_iff_ne.2 (show (y : Int) ≠ 65533 by omega), Bool.false_and])
                      clear h2
                      gi_wp2
                      refine quiet_round rfl (by kernel_rfl) (by kernel_rfl) ?_
                      repeat (gi_big_quiet_step (fail))
                      refine wpQuietIn_nil ?_
                      intro _ hw'
                      obtain ⟨nq, hw''⟩ := hw'
                      subst hw''
                      have hgY : W.grownBy (wr.drewN nq) (some Wc.heap.size) := gr_trans hgw (gr_drewN _ _ _)
                      have hkY : KeepsOthers W (wr.drewN nq) := hkr.trans (ko_drewN _ _)
                      have c7Y : Boxed (wr.drewN nq) Wc.heap.size 3 (.int .i64 (i : Nat)) := c7r
                      have c2Y : Boxed (wr.drewN nq) w.heap.size 4 (.bool false) := c2
                      have d3Y : (wr.drewN nq).cell? ⟨w1.heap.size, 0, none⟩ = some (.int .i64 (n : Nat)) := d3
                      obtain ⟨Y, hY⟩ : ∃ Y, wr.drewN nq = Y := ⟨_, rfl⟩
                      rw [hY] at hgY hkY c7Y c2Y d3Y ⊢
                      clear hY
                      have d2Y := c2Y.cell
                      have f2Y := c2Y.frozen
                      have d7Y := c7Y.cell
                      have f7Y := c7Y.frozen
                      gi_wp2
                      have e : boxN (Y.setCell ⟨Wc.heap.size, 0, none⟩ (.int .i64 ((i : Int) + 1))) Wc.heap.size = i + 1 := by rw [boxN_of (c7Y.set _)]; omega
                      go_roundw
                      case rel => exact ⟨i + 1, by omega, by omega, by rw [wrTo_no l i HNW.out]; exact HWR.out, by rw [Int.natCast_add]; exact c7Y.set _, gr_trans hgY (grownBy_setCell' _ _ _), hkY.trans (KeepsOthers.setCell _ _ _)⟩
                      case measure => rw [e, HBN.out, Int.toNat_natCast]; omega
                  · have hie : i = n := by omega
                    have HM := Lib.hid (wr_none (x := x) HPRE.out (show wrTo l n = wrTo l j by have := HWR.out; rw [hie] at this; exact this))
                    have hk1 : (n : Int) ≤ (i : Int) := by omega
                    have hbf : decide (i < n) = false := decide_eq_false hlt
                    clear hie hlt hin
                    gi_wp2
                    refine quiet_round rfl (by kernel_rfl) (by kernel_rfl) ?_
                    repeat (gi_big_quiet_step (fail))
                    refine wpQuietIn_nil ?_
                    intro _ hw'
                    obtain ⟨nq, hw''⟩ := hw'
                    subst hw''
                    have hgY : W.grownBy (wr.drewN nq) (some Wc.heap.size) := gr_trans hgw (gr_drewN _ _ _)
                    have hkY : KeepsOthers W (wr.drewN nq) := hkr.trans (ko_drewN _ _)
                    have c7Y : Boxed (wr.drewN nq) Wc.heap.size 3 (.int .i64 (i : Nat)) := c7r
                    have c2Y : Boxed (wr.drewN nq) w.heap.size 4 (.bool false) := c2
                    have d3Y : (wr.drewN nq).cell? ⟨w1.heap.size, 0, none⟩ = some (.int .i64 (n : Nat)) := d3
                    obtain ⟨Y, hY⟩ : ∃ Y, wr.drewN nq = Y := ⟨_, rfl⟩
                    rw [hY] at hgY hkY c7Y c2Y d3Y ⊢
                    clear hY
                    have d2Y := c2Y.cell
                    have f2Y := c2Y.frozen
                    have d7Y := c7Y.cell
                    have f7Y := c7Y.frozen
                    gi_wp2
                    exact ⟨(hkY.trans (KeepsOthers.setCell _ _ _)).from _, rfl, HM.out⟩
              case stop2 =>
                rintro D c pre W hD ⟨k', hk', rfl⟩ ⟨rfl, hnp⟩ hK
                exact absurd (wrTo_prefix _ hk') hnp
              case done2 =>
                rintro D2 ys V2 hD2 rfl ⟨⟨j, hj, hj2, b7V⟩, hgr⟩ kD2V
                have hbV : Below Wc.heap.size Wc V2 := gr_below hbX hgr (by omega) (by omega)
                have hD2' : V1.heap.size + 1 ≤ D2 := Nat.le_trans hszX hD2
                have lD2 : D2 < V2.heap.size := (Array.getElem?_eq_some_iff.1 kD2V).1
                have hszV2 : V1.heap.size + 1 ≤ V2.heap.size := Nat.le_trans hszX hgr.size
                have kD0V2 : V2.heap[D0]? = some (.deferred (some [])) := (hgr.block _ (Array.getElem?_eq_some_iff.1 kD0X).1 (by simp; omega)).trans kD0X
                have kD1V2 : V2.heap[D1]? = some (.deferred (some [])) := (hgr.block _ (Array.getElem?_eq_some_iff.1 kD1X).1 (by simp; omega)).trans kD1X
                have HJ2 := Lib.hid hj2
                have h7V2 := b7V.lt
                clear b7X b8X hbX hszX h7X hgr kD0X kD1X hst2 hj2 hD2
                go_wp2_with fail
                go_loopw [] (fun wr => ∃ i, j ≤ i ∧ i ≤ n ∧ wrTo l i = wrTo l n ∧ Boxed wr Wc.heap.size 3 (.int .i64 (i : Nat)) ∧ V2.grownBy wr (some Wc.heap.size) ∧ KeepsOthers V2 wr) (fun wr => n - boxN wr Wc.heap.size)
                case atStart => exact ⟨j, Nat.le_refl _, hj, HJ2.out.symm, b7V, gr_refl _ _, KeepsOthers.refl _⟩
                case round =>
                  obtain ⟨i, hji, hin, hwr, c7r, hgw, hkr⟩ := hrel
                  have hbW : Below Wc.heap.size Wc wr := gr_below hbV hgw (by omega) (by omega)
                  obtain ⟨c2, d3, d4, d5, R4, R5⟩ := FA.out wr hbW
                  have d2 := c2.cell
                  have f2 := c2.frozen
                  have d7 := c7r.cell
                  have f7 := c7r.frozen
                  have hi3 : i ≤ 3000 := by omega
                  have HBN := Lib.hid (boxN_of c7r)
                  have HWR := Lib.hid hwr
                  clear hwr
                  by_cases hlt : i < n
                  · have HNW := Lib.hid (wr_stop HWR.out hlt)
                    obtain ⟨g4, o4, rfl, hc4⟩ := R4 (by omega)
                    obtain ⟨g5, o5, rfl, hc5⟩ := R5
                    have z4 := hc4 i hlt
                    have z5 := hc5 i (by omega)
                    have z6 := hc5 (i + 1) (by omega)
                    have hat := atN_succ l i (by rw [HN.out]; exact hlt)
                    have hw4 := (tk_wid l ((tk l)[i]?.getD (0, 0)) (by rw [List.getElem?_eq_getElem (show i < (tk l).length by have := HN.out; unfold countN at this; omega)]; exact List.getElem_mem _))
                    obtain ⟨d, hd⟩ : ∃ d, ((tk l)[i]?.getD (0, 0)).2 = d := ⟨_, rfl⟩
                    obtain ⟨y, hy⟩ : ∃ y, ((tk l)[i]?.getD (0, 0)).1 = y := ⟨_, rfl⟩
                    rw [hd] at hat hw4
                    have HW := Lib.hid (isWrong_of hy hat (by rw [HN.out]; exact hlt))
                    have hp3 : atN l i ≤ 3000 := by have := (cut_at l i (by rw [HN.out]; exact hin)).1; omega
                    obtain ⟨p', hp'⟩ : ∃ p', atN l i = p' := ⟨_, rfl⟩
                    rw [hat, hp', Int.natCast_add] at z6
                    rw [hp'] at z5 hp3
                    rw [hy] at z4
                    have HP := Lib.hid hp'
                    have hki : (i : Int) < (n : Int) := by omega
                    have hk0 : (0 : Int) ≤ (i : Int) := by omega
                    have hd1' := hw4.1
                    have hd4' := hw4.2
                    clear hc4 hc5 R4 hat hd hy hp' hw4
                    by_cases h2 : y = 65533
                    · subst h2
                      have h1 : d ≠ 1 := by
                        intro e
                        subst e
                        have := HNW.out
                        rw [HW.out] at this
                        simp at this
                      have hd1 : ((d : Int) != 1) = true := bne_iff_ne.2 (by omega)
                      clear h1
                      go_wp2_with fail
                      go_quiet (fail)
                      have hgY : V2.grownBy (wr.drewN nq) (some Wc.heap.size) := gr_trans hgw (gr_drewN _ _ _)
                      have hkY : KeepsOthers V2 (wr.drewN nq) := hkr.trans (ko_drewN _ _)
                      have c7Y : Boxed (wr.drewN nq) Wc.heap.size 3 (.int .i64 (i : Nat)) := c7r
                      have c2Y : Boxed (wr.drewN nq) w.heap.size 4 (.bool false) := c2
                      have d3Y : (wr.drewN nq).cell? ⟨w1.heap.size, 0, none⟩ = some (.int .i64 (n : Nat)) := d3
                      obtain ⟨Y, hY⟩ : ∃ Y, wr.drewN nq = Y := ⟨_, rfl⟩
                      rw [hY] at hgY hkY c7Y c2Y d3Y ⊢
                      clear hY
                      have d2Y := c2Y.cell
                      have f2Y := c2Y.frozen
                      have d7Y := c7Y.cell
                      have f7Y := c7Y.frozen
                      go_wp2_with fail
                      have e : boxN (Y.setCell ⟨Wc.heap.size, 0, none⟩ (.int .i64 ((i : Int) + 1))) Wc.heap.size = i + 1 := by rw [boxN_of (c7Y.set _)]; omega
                      exact ⟨⟨i + 1, by omega, by omega, by rw [wrTo_no l i HNW.out]; exact HWR.out, by rw [Int.natCast_add]; exact c7Y.set _, gr_trans hgY (grownBy_setCell' _ _ _), hkY.trans (KeepsOthers.setCell _ _ _)⟩, by rw [e, HBN.out, Int.toNat_natCast]; omega⟩
                    · have hd1 : ((y : Int) != 65533) = true := bne_iff_ne.2 (by omega)
                      clear h2
                      go_wp2_with fail
                      go_quiet (fail)
                      have hgY : V2.grownBy (wr.drewN nq) (some Wc.heap.size) := gr_trans hgw (gr_drewN _ _ _)
                      have hkY : KeepsOthers V2 (wr.drewN nq) := hkr.trans (ko_drewN _ _)
                      have c7Y : Boxed (wr.drewN nq) Wc.heap.size 3 (.int .i64 (i : Nat)) := c7r
                      have c2Y : Boxed (wr.drewN nq) w.heap.size 4 (.bool false) := c2
                      have d3Y : (wr.drewN nq).cell? ⟨w1.heap.size, 0, none⟩ = some (.int .i64 (n : Nat)) := d3
                      obtain ⟨Y, hY⟩ : ∃ Y, wr.drewN nq = Y := ⟨_, rfl⟩
                      rw [hY] at hgY hkY c7Y c2Y d3Y ⊢
                      clear hY
                      have d2Y := c2Y.cell
                      have f2Y := c2Y.frozen
                      have d7Y := c7Y.cell
                      have f7Y := c7Y.frozen
                      go_wp2_with fail
                      have e : boxN (Y.setCell ⟨Wc.heap.size, 0, none⟩ (.int .i64 ((i : Int) + 1))) Wc.heap.size = i + 1 := by rw [boxN_of (c7Y.set _)]; omega
                      exact ⟨⟨i + 1, by omega, by omega, by rw [wrTo_no l i HNW.out]; exact HWR.out, by rw [Int.natCast_add]; exact c7Y.set _, gr_trans hgY (grownBy_setCell' _ _ _), hkY.trans (KeepsOthers.setCell _ _ _)⟩, by rw [e, HBN.out, Int.toNat_natCast]; omega⟩
                  · have hie : i = n := by omega
                    have hk1 : (n : Int) ≤ (i : Int) := by omega
                    have hk2 : ((i : Int) == (n : Int)) = true := beq_iff_eq.2 (by omega)
                    have hbf : decide (i < n) = false := decide_eq_false hlt
                    clear hie hlt hin
                    go_wp2_with fail
                    go_quiet (fail)
                    have hgY : V2.grownBy (wr.drewN nq) (some Wc.heap.size) := gr_trans hgw (gr_drewN _ _ _)
                    have hkY : KeepsOthers V2 (wr.drewN nq) := hkr.trans (ko_drewN _ _)
                    have c7Y : Boxed (wr.drewN nq) Wc.heap.size 3 (.int .i64 (i : Nat)) := c7r
                    have c2Y : Boxed (wr.drewN nq) w.heap.size 4 (.bool false) := c2
                    have d3Y : (wr.drewN nq).cell? ⟨w1.heap.size, 0, none⟩ = some (.int .i64 (n : Nat)) := d3
                    obtain ⟨Y, hY⟩ : ∃ Y, wr.drewN nq = Y := ⟨_, rfl⟩
                    rw [hY] at hgY hkY c7Y c2Y d3Y ⊢
                    clear hY
                    have d2Y := c2Y.cell
                    have f2Y := c2Y.frozen
                    have d7Y := c7Y.cell
                    have f7Y := c7Y.frozen
                    go_wp2_with fail
                    have hbY : Below w.heap.size w Y := hbwc.trans ((gr_below hbV hgY (by omega) (by omega)).mono hbwc.size)
                    have hb5 : Below w.heap.size w (Y.setCell ⟨w.heap.size, 0, none⟩ (.bool true)) := hbY.setCell (p := ⟨w.heap.size, 0, none⟩) (Nat.le_refl _) _
                    have c5 : Boxed (Y.setCell ⟨w.heap.size, 0, none⟩ (.bool true)) w.heap.size 4 (.bool true) := c2Y.set _
                    have kS := hkY.trans (KeepsOthers.setCell Y ⟨w.heap.size, 0, none⟩ (.bool true))
                    have q0 := kS.same D0 _ kD0V2 rfl
                    have q1 := kS.same D1 _ kD1V2 rfl
                    have q2 := kS.same D2 _ kD2V rfl
                    obtain ⟨W5, hW5⟩ : ∃ W5, Y.setCell ⟨w.heap.size, 0, none⟩ (.bool true) = W5 := ⟨_, rfl⟩
                    rw [hW5] at q0 q1 q2 hb5 c5 ⊢
                    clear hW5
                    have r1 : (W5.putObj D2 (.deferred none)).heap[D1]? = some (.deferred (some [])) := (World.putObj_heap_other (by omega)).trans q1
                    have r0 : ((W5.putObj D2 (.deferred none)).putObj D1 (.deferred none)).heap[D0]? = some (.deferred (some [])) := (World.putObj_heap_other (by omega)).trans ((World.putObj_heap_other (by omega)).trans q0)
                    have c6 : Boxed (((W5.putObj D2 (.deferred none)).putObj D1 (.deferred none)).putObj D0 (.deferred none)) w.heap.size 4 (.bool true) := (World.putObj_heap_other (by omega)).trans ((World.putObj_heap_other (by omega)).trans ((World.putObj_heap_other (by omega)).trans c5))
                    refine ⟨by simp, .inl ⟨_, _, rfl, run_takeDeferred q2, ?_⟩⟩
                    refine ⟨by simp, .inl ⟨_, _, rfl, run_takeDeferred r1, ?_⟩⟩
                    refine ⟨by simp, .inl ⟨_, _, rfl, run_takeDeferred r0, ?_⟩⟩
                    have hc6 := c6.cell
                    refine ⟨.bool true, ?_, rfl, ((hb5.trans (belowK_b (w := w) (Nat.le_refl _) _ D2 _ _ (by omega) q2 rfl rfl)).trans (belowK_b (w := w) (Nat.le_refl _) _ D1 _ _ (by omega) r1 rfl rfl)).trans (belowK_b (w := w) (Nat.le_refl _) _ D0 _ _ (by omega) r0 rfl rfl)⟩
                    simp [results, Tryd.f13, go_sem, hc6]
  · obtain ⟨t, rfl⟩ : ∃ t, t = s := ⟨_, rfl⟩
    have hx : t.size ≤ 3000 := by omega
    have h3i : (t.size : Int) ≤ 3000 := by omega
    go_wp2_with (first | (go_at_call 30; (with_reducible refine (HAW.out _ (HT.out.below hbA (Nat.le_refl _))).mono ?_); rintro e w1 ⟨rfl, hb1⟩))
    clear h3 h3i
    have hbw1 : Below w.heap.size w w1 := hbA.trans (hb1.mono hbA.size)
    have b2c : Boxed w1 w.heap.size 4 (.bool false) := (hb1.block _ a2.lt).trans a2
    clear hb1 a2 hbA
    obtain ⟨l, hl⟩ : ∃ l, bs t = l := ⟨_, rfl⟩
    have HL := Lib.hid hl
    clear hl
    go_loopw [6, 7, 8, 9, 10, 11, 12, 13, 14] (fun _ _ _ _ _ _ _ _ _ wr => ∃ done p v4 v5, Cut l done p ∧ wr.heap[w1.heap.size + 1 + 1 + 1]? = some (.stringIter t p) ∧ RM w1 wr l done.length done.length done.length v4 v5) (fun _ _ _ _ _ _ _ _ _ wr => t.size - wr.iterPos (w1.heap.size + 1 + 1 + 1))
    case atStart =>
      have hI := World.iter_heap (((w1.alloc (.cells #[.int .i64 0] 3)).alloc (.cells #[.slice none 0 0] 27)).alloc (.cells #[.slice none 0 0] 53)) t 0
      rw [World.size_alloc, World.size_alloc, World.size_alloc] at hI
      refine ⟨[], 0, .slice none 0 0, .slice none 0 0, Cut.zero _, hI, ?_⟩
      have h4 := Boxed.new (w1.alloc (.cells #[.int .i64 0] 3)) 27 (.slice none 0 0)
      have h5 := Boxed.new ((w1.alloc (.cells #[.int .i64 0] 3)).alloc (.cells #[.slice none 0 0] 27)) 53 (.slice none 0 0)
      rw [World.size_alloc] at h4
      rw [World.size_alloc, World.size_alloc] at h5
      exact ⟨(((Boxed.new w1 3 (.int .i64 0)).alloc _).alloc _).alloc _, (h4.alloc _).alloc _, h5.alloc _, World.ownsRow_nil _ _ _ _, World.ownsRow_nil _ _ _ _, by simp only [World.iter, World.size_alloc]; exact Nat.le_refl _, al (al (al (al (Below.refl _ _) _) _) _) _⟩
    case round =>
      obtain ⟨done, p, v4, v5, hc, hit, H⟩ := hrel
      have hpl := hc.1
      have hcl := hc.le_count
      have hct := countN_le l
      have hlt0 : l.length = t.size := by rw [size_bs, HL.out]
      by_cases hp : p < l.length
      · have hpt : p < t.size := by omega
        have hnx := fun ty => Lib.run_next_any_at (P := Tryd.prog) wr (w1.heap.size + 1 + 1 + 1) t p ty hit hpt
        rw [decode_bs, HL.out] at hnx
        have hst := hc.step hp
        have hw := (wid_bounds (l.drop p)).1
        have hget := hc.get hp
        have hlt := hc.lt_count hp
        have HA := Lib.hid (c_at t (by omega) (done.length : Nat) (p : Nat) 0 (by rw [HL.out]; exact ask_at hc hp))
        have HO := Lib.hid (c_of t (by omega) (p : Nat) (done.length : Nat) 0 (by rw [HL.out]; exact ask_of hc hp))
        have HB := Lib.hid (c_begins t (by omega) (p : Nat) true (by rw [HL.out]; exact begB_t (by omega) ⟨done, hc⟩))
        have hEs : (t.extract p t.size).size ≠ 0 := by rw [size_bs, bs_drop, HL.out, List.length_drop]; omega
        have hF := fun r n' h1 h2 => first_some (t.extract p t.size) r n' hEs (by rw [bs_drop, HL.out]; exact h1) (by rw [bs_drop, HL.out]; exact h2)
        have hwl : (Lib.decodeL (l.drop p)).2 ≤ l.length - p := by have := wid_le (l.drop p) (by intro e; have := congrArg List.length e; simp at this; omega); simpa using this
        have hat := hc.at'
        obtain ⟨d, hd⟩ : ∃ d, d = Lib.decodeL (l.drop p) := ⟨_, rfl⟩
        rw [← hd] at hnx hst hw hwl hget hF
        obtain ⟨r, n'⟩ := d
        simp only at hnx hw hwl hst hF
        have HF := Lib.hid (hF (r : Int) n' rfl rfl)
        have HG := Lib.hid (show ((tk l)[done.length]?.getD (0, 0)).1 = r by rw [hget])
        have HAT := Lib.hid hat
        have H2 := H.iter hit (p + n')
        have HIT := Lib.hid (Lib.iterAt_heap wr (w1.heap.size + 1 + 1 + 1) t p (p + n') hit)
        have HIP := Lib.hid (show wr.iterPos (w1.heap.size + 1 + 1 + 1) = p from iterPos_of hit)
        have HS := Lib.hid hst
        clear hd hc hst hit hget hF H hat hEs
        obtain ⟨V, hV⟩ : ∃ V, wr.iterAt (w1.heap.size + 1 + 1 + 1) t (p + n') = V := ⟨_, rfl⟩
        rw [hV] at hnx H2 HIT
        clear hV
        have hbV : Below w.heap.size w V := hbw1.trans (H2.bel.mono hbw1.size)
        have HTV := Lib.hid (HT.out.below hbV (Nat.le_refl _))
        have d3 := H2.b3.cell
        have hk3 : done.length ≤ 3000 := by omega
        clear hbV
        go_wp2_with (first
          | (go_at_call 41; (with_reducible refine (HA.out _).mono ?_); rintro e w2 ⟨rfl, hb2⟩)
          | (go_at_call 40; (with_reducible refine (HO.out _).mono ?_); rintro e w3 ⟨rfl, hb3⟩; have hb13 := nx hb2 hb3)
          | (go_at_call 15; (with_reducible refine (HF.out _ (HTV.out.below hb13 (Nat.le_refl _))).mono ?_); rintro e w4 ⟨rfl, hb4⟩; have hb14 := nx hb13 hb4; have d34 := (H2.keep hb14).b3.cell)
          | (go_at_call 33; (with_reducible refine (HB.out _ (HTV.out.below hb14 (Nat.le_refl _))).mono ?_); rintro e w5 ⟨rfl, hb5⟩; have hb15 := nx hb14 hb5; have H5 := H2.keep hb15; have d35 := H5.b3.cell; have f35 := H5.b3.frozen; have H6 := H5.count (done.length + 1) (x := ((done.length : Nat) : Int) + 1) (by omega); have d46 := H6.b4.cell; have hs6 := H6.sz)
          | (at_builtin; refine wpList_append_own _ rfl _ _ 27 rfl (w1.heap.size + 4) 21 i0 (.int .i32 0) 1 4 Tryd.underlying27 hi hz0 hz1 hz2 rfl (by decide) v4 _ _ rfl (H6.r4.alloc _) ⟨_, 0, none⟩ 1 1 [.int .i32 (r : Nat)] rfl (by simp) (cells_new_set _ _ _ _ _) (by simp [Value.oneCell']) (by unfold maxLen; omega) (by omega) (by rw [World.size_alloc]; omega) ?_; intro v4' w6 hown6 hgrow6 _; obtain ⟨ga4, gc4, rfl⟩ := owned_slice hown6; obtain ⟨hv6, H7, hk7⟩ := H6.put4 HG.out hown6 hgrow6; have d46' := hv6.cell; have f46 := hv6.frozen; have d57 := H7.b5.cell; have hs7 := H7.sz; clear hown6 hgrow6)
          | (at_builtin; refine wpList_append_own _ rfl _ _ 53 rfl (w1.heap.size + 4) 3 i1 (.int .i64 0) 1 8 Tryd.underlying53 hi' hy0 hy1 hy2 rfl (by decide) v5 _ _ rfl (H7.r5.alloc _) ⟨_, 0, none⟩ 1 1 [.int .i64 (p : Nat)] rfl (by simp) (cells_new_set _ _ _ _ _) (by simp [Value.oneCell']) (by unfold maxLen; omega) (by omega) (by rw [World.size_alloc]; omega) ?_; intro v5' w8 hown8 hgrow8 _; obtain ⟨ga5, gc5, rfl⟩ := owned_slice hown8; obtain ⟨hv8, H9, hk9⟩ := H7.put5 HAT.out hown8 hgrow8; have d58' := hv8.cell; have f58 := hv8.frozen; clear hown8 hgrow8))
        have hit9 := hk9.same _ _ (hk7.same _ _ ((KeepsOthers.setCell w5 ⟨w1.heap.size, 0, none⟩ (.int .i64 ((done.length : Int) + 1))).same _ _ ((hb15.block _ (Array.getElem?_eq_some_iff.1 HIT.out).1).trans HIT.out) rfl) rfl) rfl
        go_roundw
        case rel => exact ⟨_, _, _, _, HS.out, hit9, by rw [List.length_append, List.length_singleton]; exact H9⟩
        case measure => rw [iterPos_of hit9, HIP.out]; omega
      · have hnx := fun ty => Lib.run_next_end_at (P := Tryd.prog) wr (w1.heap.size + 1 + 1 + 1) t p ty hit (by omega)
        have hE := (hc.end' hp).1
        have hn : done.length = countN l := by rw [hE]; rfl
        rw [hn] at H
        clear hE hc hit hn hcl
        obtain ⟨n, hn⟩ : ∃ n, countN l = n := ⟨_, rfl⟩
        have HN := Lib.hid hn
        rw [hn] at H hct
        clear hn
        obtain ⟨Z, hZ⟩ : ∃ Z, runesZ l = Z := ⟨_, rfl⟩
        have hZl : Z.length = n := by rw [← hZ, runesZ_len, HN.out]
        have HZL := Lib.hid hZl
        have hr4 : wr.ownsRow (w1.heap.size + 4) 21 1 v4 n (Z.map (Value.int .i32)) := by
          have := H.r4
          rw [← HN.out, rns_full, hZ, HN.out] at this
          exact this
        obtain ⟨a4, c4, e4, -, R4⟩ := ReadsI.owned hr4
        rw [hZl] at e4
        subst e4
        have HC := Lib.hid (c_count t (by omega) n (by rw [HL.out, HN.out]))
        have HRT := Lib.hid (runes_any t (by omega))
        simp only [HL.out, hZ, HN.out] at HRT
        have HST := Lib.hid (fun a c b d W (RA : ReadsI W .i32 a Z) (RB : ReadsI W .i32 b Z) => sameRunes_any a b c d Z Z (by omega) W RA RB)
        simp only [sameZ_self, hZl] at HST
        have hrf : Conv.runesFrom t t.size 0 #[] = (Z.map (Value.int .i32)).toArray := by rw [runesFrom_all, HL.out, hZ]
        have hcv1 : ∀ W, (convert 9 27 (.string t)).run Tryd.prog W = .ok (.slice (some ⟨W.heap.size, 0, none⟩) n (grownCap W n 0 21)) (W.drew.alloc (.cells ((Z.map (Value.int .i32)).toArray ++ Array.replicate (grownCap W n 0 21 - n) (.int .i32 0)) 21)) := by
          intro W
          have := run_runes_of_string (P := Tryd.prog) W 9 27 21 t Tryd.underlying9 Tryd.underlying27 Tryd.underlying21 (by rw [hrf]; simp [hZl]; omega)
          rw [hrf] at this
          simpa [hZl] using this
        have hS := And.intro H.b3.cell (And.intro H.b4.cell (Below.refl wr.heap.size wr))
        clear hrf hZ hZl hr4
        go_wp2_with fail
        refine wp_region_noPanic ?_
        go_region_held_law (fun w' => w'.cell? ⟨w1.heap.size, 0, none⟩ = some (.int .i64 (n : Nat)) ∧ w'.cell? ⟨w1.heap.size + 1, 0, none⟩ = some (.slice a4 n c4) ∧ Below wr.heap.size wr w') (first | (with_reducible assumption) | (with_reducible exact c2_keep (by assumption) (by assumption)) | (with_reducible exact c2_keep hS (Below.refl _ _).drew) | (with_reducible exact c2_keep (by assumption) (((Below.refl _ _).alloc (Nat.le_refl _) _).drew)))
          (first
            | (go_at_call 19; (with_reducible refine (HC.out _).mono ?_); rintro e w10 ⟨rfl, hb10⟩; have hV10 : Below wr.heap.size wr w10 := nx (Below.refl _ wr).drew hb10)
            | (go_at_call 22; (with_reducible refine (HRT.out _).mono ?_); rintro e w11 ⟨v11, rfl, hv11, hb11⟩; obtain ⟨a8, c8, e8, -, R8⟩ := ReadsI.owned (zs := Z) hv11; rw [HZL.out] at e8; subst e8; have hV11 : Below wr.heap.size wr w11 := nx hV10 hb11)
            | (go_at_call 21; (with_reducible refine (HST.out a8 c8 a4 c4 w11 R8 (R4.below hV11 (Nat.le_refl _))).mono ?_); rintro e w12 ⟨rfl, hb12⟩; have hV12 := nx hV11 hb12)
            | (go_at_call 21; (with_reducible refine (HST.out _ _ a4 c4 _ (reads_conv _ _ _ _) (R4.below (nx hV12 (((Below.refl _ _).alloc (Nat.le_refl _) _).drew)) (Nat.le_refl _))).mono ?_); rintro e w13 ⟨rfl, hb13⟩; have hV13 := nx (nx hV12 (((Below.refl _ _).alloc (Nat.le_refl _) _).drew)) hb13))
        all_goals
          refine NoPanic.normal ?_
          have H13 := H.keep hV13
          have HFULL := Lib.hid (show atN l n = t.size by rw [← HN.out, atN_full, hlt0])
          clear HAW HC HRT HST hcv1 hS hb10 hV10 hb11 R8 hv11 hV11 hb12 hV12 hb13 R4 hnx H hV13
          have d53 := H13.b5.cell
          have hs13 := H13.sz
          go_wp2_with (first
            | (at_builtin; refine wpList_append_own _ rfl _ _ 53 rfl (w1.heap.size + 4) 3 i1 (.int .i64 0) 1 8 Tryd.underlying53 hi' hy0 hy1 hy2 rfl (by decide) v5 _ _ rfl (H13.r5.alloc _) ⟨_, 0, none⟩ 1 1 [.int .i64 (t.size : Nat)] rfl (by simp) (cells_new _ _ _) (by simp [Value.oneCell']) (by unfold maxLen; omega) (by omega) (by rw [World.size_alloc]; omega) ?_; intro v5' w14 hown14 hgrow14 _; obtain ⟨ga5, gc5, rfl⟩ := owned_slice hown14; obtain ⟨hv14, H15, hk15⟩ := H13.put5 HFULL.out hown14 hgrow14; have d54 := hv14.cell; have f54 := hv14.frozen; clear hown14 hgrow14)
            | (go_at_call 37; (with_reducible refine (all_in t _).mono ?_); rintro e w15 ⟨rfl, rfl⟩))
          obtain ⟨Wc, hWc⟩ : ∃ Wc, w14.setCell ⟨w1.heap.size + 1 + 1, 0, none⟩ (.slice ga5 (n + 1) gc5) = Wc := ⟨_, rfl⟩
          have hsz14 : w14.heap.size = Wc.heap.size := by rw [← hWc]; exact (size_setCell _ _ _).symm
          rw [hWc, hsz14]
          rw [hWc] at H15
          clear hsz14 hWc hv14 d54 f54 d53 H13 hs13 hk15
          have hFA : ∀ W, Below Wc.heap.size Wc W → Boxed W w.heap.size 4 (.bool false) ∧ W.cell? ⟨w1.heap.size, 0, none⟩ = some (.int .i64 (n : Nat)) ∧ W.cell? ⟨w1.heap.size + 1, 0, none⟩ = some (.slice a4 n c4) ∧ W.cell? ⟨w1.heap.size + 1 + 1, 0, none⟩ = some (.slice ga5 (n + 1) gc5) ∧ (0 < n → ∃ g o, a4 = some ⟨g, o, none⟩ ∧ ∀ i, i < n → W.cell? ⟨g, o + i, none⟩ = some (.int .i32 (((tk l)[i]?.getD (0, 0)).1 : Nat))) ∧ (∃ g o, ga5 = some ⟨g, o, none⟩ ∧ ∀ i, i < n + 1 → W.cell? ⟨g, o + i, none⟩ = some (.int .i64 (atN l i : Nat))) := by
            intro W hb
            have K := H15.keep hb
            refine ⟨(K.bel.block _ b2c.lt).trans b2c, K.b3.cell, K.b4.cell, K.b5.cell, fun h0 => ?_, ?_⟩
            · rcases K.reads4 HN.out with h | ⟨g, o, e, hc⟩
              · have := congrArg List.length h
                rw [runesZ_len, HN.out] at this
                simp at this
                omega
              · exact ⟨g, o, e, fun i hi => by rw [hc i (by rw [runesZ_len, HN.out]; exact hi), runesZ_get l i (by rw [HN.out]; exact hi)]⟩
            · rcases K.reads5 with h | ⟨g, o, e, hc⟩
              · have := congrArg List.length h
                rw [plz_len] at this
                simp at this
              · exact ⟨g, o, e, fun i hi => by rw [hc i (by rw [plz_len]; exact hi), plz_get l _ i hi]⟩
          have FA := Lib.hid hFA
          have hbwc : Below w.heap.size w Wc := hbw1.trans (H15.bel.mono hbw1.size)
          have hszc : w.heap.size < Wc.heap.size := by have h1 := b2c.lt; have h2 := H15.sz; omega
          clear hFA
          have b7X := (Boxed.new Wc 3 (.int .i64 0)).alloc (.cells #[.string t] 9)
          have b8X := Boxed.new (Wc.alloc (.cells #[.int .i64 0] 3)) 9 (.string t)
          rw [World.size_alloc] at b8X
          have hbX : Below Wc.heap.size Wc ((Wc.alloc (.cells #[.int .i64 0] 3)).alloc (.cells #[.string t] 9)) := al (al (Below.refl _ _) _) _
          have hszX : Wc.heap.size + 1 + 1 ≤ ((Wc.alloc (.cells #[.int .i64 0] 3)).alloc (.cells #[.string t] 9)).heap.size := by rw [World.size_alloc, World.size_alloc]; exact Nat.le_refl _
          obtain ⟨X0, hX⟩ : ∃ X0, (Wc.alloc (.cells #[.int .i64 0] 3)).alloc (.cells #[.string t] 9) = X0 := ⟨_, rfl⟩
          rw [hX] at b7X b8X hbX hszX ⊢
          clear hX
          have hst0 := all_stops (9 - 1) (by decide) (Wc.heap.size + 1) w.heap.size t X0 b8X.cell
          rw [HL.out, HN.out] at hst0
          have h7X := b7X.lt
          refine (wpIn_wide (n := 9)).1 ?_
          refine' wpIn_rangeFunc_ownG rfl (by decide) (gf := 56) (lb := #[.pointer (some ⟨(Wc.heap.size + 1), 0, none⟩)]) rfl trivial (enters_of Tryd.func56 (by kernel_rfl) rfl)
            hst0 kpB_t (kpB_b (by omega)) (Below.refl _ _) (fun _ => rfl)
            (fun (pre : List (Nat × Nat)) W => pre = ups (allF l) pre.length ∧ Boxed W Wc.heap.size 3 (.int .i64 (pre.length : Nat)) ∧ X0.grownBy W (some Wc.heap.size))
            (fun c (pre : List (Nat × Nat)) _ => c = .ret ∧ ¬ pre <+: ups (allF l) n)
            (OwnFrom.and (ownFrom_pure _ (fun (pre : List (Nat × Nat)) => pre = ups (allF l) pre.length)) (OwnFrom.and (Own.from (boxed_own _ _ (fun (pre : List (Nat × Nat)) => .int .i64 (pre.length : Nat))) _) (ownFrom_gr X0 Wc.heap.size)))
            (fun _ _ _ _ _ hs _ _ => hs)
            ⟨rfl, b7X, gr_refl _ _⟩ _ ?assign0 ?body0 ?done0 ?stop0
          case assign0 =>
            intro q x W K hK
            dsimp only [encP]
            gi_wp2
            exact hK
          case body0 =>
            rintro q pre ⟨x1, x2⟩ W ⟨hpre, c7, hgr⟩ hge
            have hbW : Below Wc.heap.size Wc W := gr_below hbX hgr (by omega) (by omega)
            have hle : pre.length ≤ 3000 := by omega
            obtain ⟨c2, d3, d4, d5, R4, R5⟩ := FA.out W hbW
            have d7 := c7.cell
            have f7 := c7.frozen
            have hk0 : (0 : Int) ≤ (pre.length : Int) := by omega
            have hki : (pre.length : Int) < (n : Int) := by omega
            have hjn : pre.length < n := hge
            have d2 := c2.cell
            have f2 := c2.frozen
            obtain ⟨g4, o4, rfl, hc4⟩ := R4 (by omega)
            obtain ⟨g5, o5, rfl, hc5⟩ := R5
            have z4 := hc4 pre.length hjn
            have z5 := hc5 pre.length (by omega)
            clear hc4 hc5 R4
            obtain ⟨y1, hy1⟩ : ∃ y, atN l pre.length = y := ⟨_, rfl⟩
            obtain ⟨y2, hy2⟩ : ∃ y, ((tk l)[pre.length]?.getD (0, 0)).1 = y := ⟨_, rfl⟩
            rw [hy1] at z5
            rw [hy2] at z4
            have hF : allF l pre.length = (y1, y2) := by unfold allF; rw [hy1, hy2]
            have HPRE := Lib.hid hpre
            have HF := Lib.hid hF
            clear hy1 hy2 hF hpre hge
            by_cases h1 : x1 = y1
            · subst h1
              by_cases h2 : x2 = y2
              · subst h2
                have HP := Lib.hid (show pre ++ [(x1, x2)] = ups (allF l) (pre ++ [(x1, x2)]).length by rw [← HF.out]; exact ups_step HPRE.out)
                gi_wp2
                refine ⟨(KeepsOthers.setCell _ _ _).from _, ⟨(KeepsOthers.setCell _ _ _).walks, (Below.refl _ W).setCell (p := ⟨Wc.heap.size, 0, none⟩) (show w.heap.size ≤ Wc.heap.size by omega) _⟩, HP.out, ?_, gr_trans hgr (grownBy_setCell' _ _ _)⟩
                rw [List.length_append, List.length_singleton, Int.natCast_add]
                exact c7.set _
              · have hd2 : ((x2 : Int) != (y2 : Int)) = true := bne_iff_ne.2 (by omega)
                have HM := Lib.hid (ups_mism (f := allF l) (pre := pre) (x := (x1, x2)) (by rw [HF.out]; intro e; injection e with e1 e2; exact h2 e2) n)
                clear h2
                gi_wp2
                exact ⟨(KeepsOthers.setCell _ _ _).from _, ⟨rfl, HM.out⟩⟩
            · have hd1 : ((x1 : Int) != (y1 : Int)) = true := bne_iff_ne.2 (by omega)
              have HM := Lib.hid (ups_mism (f := allF l) (pre := pre) (x := (x1, x2)) (by rw [HF.out]; intro e; injection e with e1 e2; exact h1 e1) n)
              clear h1
              gi_wp2
              exact ⟨(KeepsOthers.setCell _ _ _).from _, ⟨rfl, HM.out⟩⟩
          case stop0 =>
            rintro D c pre W hD ⟨k', hk', rfl⟩ ⟨rfl, hnp⟩ hK
            exact absurd (ups_prefix _ hk') hnp
          case done0 =>
            rintro D0 ys V0 hD0 rfl ⟨-, b7V, hgr⟩ kD0V
            rw [ups_length] at b7V
            have hbV : Below Wc.heap.size Wc V0 := gr_below hbX hgr (by omega) (by omega)
            have hszV := hgr.size
            have h7V := b7V.lt
            have d7V := b7V.cell
            obtain ⟨-, d3V, -, -, -, -⟩ := FA.out V0 hbV
            have hD0' : Wc.heap.size + 1 + 1 ≤ D0 := Nat.le_trans hszX hD0
            have lD0 : D0 < V0.heap.size := (Array.getElem?_eq_some_iff.1 kD0V).1
            clear b7X b8X hbX hszX h7X hgr
            go_wp2_with (first
              | (go_at_call 38; (with_reducible refine (back_in t _).mono ?_); rintro e w15 ⟨rfl, rfl⟩))
            have b7X := b7V.alloc (.cells #[.string t] 9)
            have b8X := Boxed.new V0 9 (.string t)
            have hbX : Below Wc.heap.size Wc (V0.alloc (.cells #[.string t] 9)) := al hbV _
            have hszX : V0.heap.size + 1 ≤ (V0.alloc (.cells #[.string t] 9)).heap.size := by rw [World.size_alloc]; exact Nat.le_refl _
            have kD0X := (KeepsOthers.alloc V0 (.cells #[.string t] 9)).same D0 _ kD0V rfl
            obtain ⟨X1, hX⟩ : ∃ X1, V0.alloc (.cells #[.string t] 9) = X1 := ⟨_, rfl⟩
            rw [hX] at b7X b8X hbX hszX kD0X ⊢
            clear hX
            have hst1 := back_stops (9 - 1) (by decide) V0.heap.size w HT.out t (by omega) X1 (hbwc.trans (hbX.mono hbwc.size)) b8X.cell
            rw [HL.out, HN.out] at hst1
            have h7X := b7X.lt
            refine (wpIn_wide (n := 9)).1 ?_
            refine' wpIn_rangeFunc_ownG rfl (by decide) (gf := 57) (lb := #[.pointer (some ⟨V0.heap.size, 0, none⟩)]) rfl trivial (enters_of Tryd.func57 (by kernel_rfl) rfl)
              hst1 kpB_t (kpB_b (by omega)) (Below.refl _ _) (fun _ => rfl)
              (fun (pre : List (Nat × Nat)) W => pre = ups (backF l) pre.length ∧ Boxed W Wc.heap.size 3 (.int .i64 ((n : Int) - (pre.length : Nat))) ∧ X1.grownBy W (some Wc.heap.size))
              (fun c (pre : List (Nat × Nat)) _ => c = .ret ∧ ¬ pre <+: ups (backF l) n)
              (OwnFrom.and (ownFrom_pure _ (fun (pre : List (Nat × Nat)) => pre = ups (backF l) pre.length)) (OwnFrom.and (Own.from (boxed_own _ _ (fun (pre : List (Nat × Nat)) => .int .i64 ((n : Int) - (pre.length : Nat)))) _) (ownFrom_gr X1 Wc.heap.size)))
              (fun _ _ _ _ _ hs _ _ => hs)
              ⟨rfl, by simpa using b7X, gr_refl _ _⟩ _ ?assign1 ?body1 ?done1 ?stop1
            case assign1 =>
              intro q x W K hK
              dsimp only [encP]
              gi_wp2
              exact hK
            case body1 =>
              rintro q pre ⟨x1, x2⟩ W ⟨hpre, c7, hgr⟩ hge
              have hbW : Below Wc.heap.size Wc W := gr_below hbX hgr (by omega) (by omega)
              have hle : pre.length ≤ 3000 := by omega
              obtain ⟨j, hj⟩ : ∃ j, n = pre.length + 1 + j := ⟨n - pre.length - 1, by omega⟩
              have hjj : n - 1 - pre.length = j := by omega
              have hk0 : (0 : Int) ≤ (j : Int) := by omega
              have hki : (j : Int) < (n : Int) := by omega
              have hjn : j < n := by omega
              have hjl : j ≤ 3000 := by omega
              have ek : ((n : Int) - (pre.length : Nat)) = (j : Int) + 1 := by omega
              rw [ek] at c7
              have HJ := Lib.hid hj
              have hbS : Below Wc.heap.size Wc (W.setCell ⟨Wc.heap.size, 0, none⟩ (.int .i64 (j : Nat))) := hbW.setCell (p := ⟨Wc.heap.size, 0, none⟩) (Nat.le_refl _) _
              have d7 := c7.cell
              have f7 := c7.frozen
              have c7S := c7.set (.int .i64 (j : Nat))
              have d7S := c7S.cell
              obtain ⟨c2, d3, d4, d5, R4, R5⟩ := FA.out _ hbS
              clear hj ek
              have d2 := c2.cell
              have f2 := c2.frozen
              obtain ⟨g4, o4, rfl, hc4⟩ := R4 (by omega)
              obtain ⟨g5, o5, rfl, hc5⟩ := R5
              have z4 := hc4 j hjn
              have z5 := hc5 j (by omega)
              clear hc4 hc5 R4
              obtain ⟨y1, hy1⟩ : ∃ y, atN l j = y := ⟨_, rfl⟩
              obtain ⟨y2, hy2⟩ : ∃ y, ((tk l)[j]?.getD (0, 0)).1 = y := ⟨_, rfl⟩
              rw [hy1] at z5
              rw [hy2] at z4
              have hF : backF l pre.length = (y1, y2) := by unfold backF allF; rw [HN.out, hjj, hy1, hy2]
              have HPRE := Lib.hid hpre
              have HF := Lib.hid hF
              clear hy1 hy2 hF hpre hge hjj
              by_cases h1 : x1 = y1
              · subst h1
                by_cases h2 : x2 = y2
                · subst h2
                  have HP := Lib.hid (show pre ++ [(x1, x2)] = ups (backF l) (pre ++ [(x1, x2)]).length by rw [← HF.out]; exact ups_step HPRE.out)
                  gi_wp2
                  refine ⟨(KeepsOthers.setCell _ _ _).from _, ⟨(KeepsOthers.setCell _ _ _).walks, (Below.refl _ W).setCell (p := ⟨Wc.heap.size, 0, none⟩) (show w.heap.size ≤ Wc.heap.size by omega) _⟩, HP.out, ?_, gr_trans hgr (grownBy_setCell' _ _ _)⟩
                  have e : ((n : Int) - ((pre ++ [(x1, x2)]).length : Nat)) = (j : Int) := by have := HJ.out; rw [List.length_append, List.length_singleton]; omega
                  rw [e]
                  exact c7S
                · have hd2 : ((x2 : Int) != (y2 : Int)) = true := bne_iff_ne.2 (by omega)
                  have HM := Lib.hid (ups_mism (f := backF l) (pre := pre) (x := (x1, x2)) (by rw [HF.out]; intro e; injection e with e1 e2; exact h2 e2) n)
                  clear h2
                  gi_wp2
                  exact ⟨((KeepsOthers.setCell _ _ _).trans (KeepsOthers.setCell _ _ _)).from _, ⟨rfl, HM.out⟩⟩
              · have hd1 : ((x1 : Int) != (y1 : Int)) = true := bne_iff_ne.2 (by omega)
                have HM := Lib.hid (ups_mism (f := backF l) (pre := pre) (x := (x1, x2)) (by rw [HF.out]; intro e; injection e with e1 e2; exact h1 e1) n)
                clear h1
                gi_wp2
                exact ⟨((KeepsOthers.setCell _ _ _).trans (KeepsOthers.setCell _ _ _)).from _, ⟨rfl, HM.out⟩⟩
            case stop1 =>
              rintro D c pre W hD ⟨k', hk', rfl⟩ ⟨rfl, hnp⟩ hK
              exact absurd (ups_prefix _ hk') hnp
            case done1 =>
              rintro D1 ys V1 hD1 rfl ⟨-, b7V, hgr⟩ kD1V
              rw [ups_length] at b7V
              have hbV : Below Wc.heap.size Wc V1 := gr_below hbX hgr (by omega) (by omega)
              have hszV := hgr.size
              have h7V := b7V.lt
              have d7V := b7V.cell
              obtain ⟨-, d3V, -, -, -, -⟩ := FA.out V1 hbV
              have hD1' : V0.heap.size + 1 ≤ D1 := Nat.le_trans hszX hD1
              have lD1 : D1 < V1.heap.size := (Array.getElem?_eq_some_iff.1 kD1V).1
              have kD0V1 : V1.heap[D0]? = some (.deferred (some [])) := (hgr.block _ (Array.getElem?_eq_some_iff.1 kD0X).1 (by simp; omega)).trans kD0X
              have hszV1 : V0.heap.size + 1 ≤ V1.heap.size := Nat.le_trans hszX hszV
              clear b7X b8X hbX hszX h7X hgr kD0X kD0V
              rw [Int.sub_self] at b7V
              have d7V := b7V.cell
              go_wp2_with (first
                | (go_at_call 35; (with_reducible refine (wrong_in t _).mono ?_); rintro e w15 ⟨rfl, rfl⟩))
              have b7X := b7V.alloc (.cells #[.string t] 9)
              have b8X := Boxed.new V1 9 (.string t)
              have hbX : Below Wc.heap.size Wc (V1.alloc (.cells #[.string t] 9)) := al hbV _
              have hszX : V1.heap.size + 1 ≤ (V1.alloc (.cells #[.string t] 9)).heap.size := by rw [World.size_alloc]; exact Nat.le_refl _
              have kD0X := (KeepsOthers.alloc V1 (.cells #[.string t] 9)).same D0 _ kD0V1 rfl
              have kD1X := (KeepsOthers.alloc V1 (.cells #[.string t] 9)).same D1 _ kD1V rfl
              obtain ⟨X2, hX⟩ : ∃ X2, V1.alloc (.cells #[.string t] 9) = X2 := ⟨_, rfl⟩
              rw [hX] at b7X b8X hbX hszX kD0X kD1X ⊢
              clear hX d7V kD0V1 kD1V
              have hst2 := wrong_stops (9 - 1) (by decide) V1.heap.size w HT.out t X2 (hbwc.trans (hbX.mono hbwc.size)) b8X.cell
              rw [HL.out, HN.out] at hst2
              have h7X := b7X.lt
              refine (wpIn_wide (n := 9)).1 ?_
              refine' wpIn_rangeFunc_ownG rfl (by decide) (gf := 55) (lb := #[.pointer (some ⟨V1.heap.size, 0, none⟩)]) rfl trivial (enters_of Tryd.func55 (by kernel_rfl) rfl)
                hst2 kpW_t (kpW_b (by omega) (by omega)) (Below.refl _ _) (fun _ => rfl)
                (fun (pre : List Nat) W => (∃ j, j ≤ n ∧ pre = wrTo l j ∧ Boxed W Wc.heap.size 3 (.int .i64 (j : Nat))) ∧ X2.grownBy W (some Wc.heap.size))
                (fun c (pre : List Nat) _ => c = .ret ∧ ¬ pre <+: wrTo l n)
                (OwnFrom.and (fun s A B row hs hg hr => hs.imp fun j h => ⟨h.1, h.2.1, boxed_own (β := List Nat) Wc.heap.size 3 (fun _ => .int .i64 (j : Nat)) s A B row h.2.2 hg (fun r e => (hr r e).2)⟩) (ownFrom_gr X2 Wc.heap.size))
                (fun _ _ _ _ _ hs _ _ => hs)
                ⟨⟨0, Nat.zero_le _, by simp [wrTo], b7X⟩, gr_refl _ _⟩ _ ?assign2 ?body2 ?done2 ?stop2
              case assign2 =>
                intro q x W K hK
                dsimp only [encW]
                gi_wp2
                exact hK
              case body2 =>
                rintro q pre x W ⟨⟨j, hj, hpre, c7⟩, hgr⟩ hge
                have HPRE := Lib.hid hpre
                have h7W := c7.lt
                have hszW := hgr.size
                clear hpre hge
                gi_wp2
                gi_loopw [] (fun wr => ∃ i, j ≤ i ∧ i ≤ n ∧ wrTo l i = wrTo l j ∧ Boxed wr Wc.heap.size 3 (.int .i64 (i : Nat)) ∧ W.grownBy wr (some Wc.heap.size) ∧ KeepsOthers W wr) (fun wr => n - boxN wr Wc.heap.size)
                case atStart => exact ⟨j, Nat.le_refl _, hj, rfl, c7, gr_refl _ _, KeepsOthers.refl _⟩
                case round =>
                  obtain ⟨i, hji, hin, hwr, c7r, hgw, hkr⟩ := hrel
                  have hbW : Below Wc.heap.size Wc wr := gr_below hbX (gr_trans hgr hgw) (by omega) (by omega)
                  obtain ⟨c2, d3, d4, d5, R4, R5⟩ := FA.out wr hbW
                  have d2 := c2.cell
                  have f2 := c2.frozen
                  have d7 := c7r.cell
                  have f7 := c7r.frozen
                  have hi3 : i ≤ 3000 := by omega
                  have HBN := Lib.hid (boxN_of c7r)
                  have HWR := Lib.hid hwr
                  clear hwr
                  by_cases hlt : i < n
                  · obtain ⟨g4, o4, rfl, hc4⟩ := R4 (by omega)
                    obtain ⟨g5, o5, rfl, hc5⟩ := R5
                    have z4 := hc4 i hlt
                    have z5 := hc5 i (by omega)
                    have z6 := hc5 (i + 1) (by omega)
                    have hat := atN_succ l i (by rw [HN.out]; exact hlt)
                    have hw4 := (tk_wid l ((tk l)[i]?.getD (0, 0)) (by rw [List.getElem?_eq_getElem (show i < (tk l).length by have := HN.out; unfold countN at this; omega)]; exact List.getElem_mem _))
                    obtain ⟨d, hd⟩ : ∃ d, ((tk l)[i]?.getD (0, 0)).2 = d := ⟨_, rfl⟩
                    obtain ⟨y, hy⟩ : ∃ y, ((tk l)[i]?.getD (0, 0)).1 = y := ⟨_, rfl⟩
                    rw [hd] at hat hw4
                    have HW := Lib.hid (isWrong_of hy hat (by rw [HN.out]; exact hlt))
                    have hp3 : atN l i ≤ 3000 := by have := (cut_at l i (by rw [HN.out]; exact hin)).1; omega
                    obtain ⟨p', hp'⟩ : ∃ p', atN l i = p' := ⟨_, rfl⟩
                    rw [hat, hp', Int.natCast_add] at z6
                    rw [hp'] at z5 hp3
                    rw [hy] at z4
                    have HP := Lib.hid hp'
                    have hki : (i : Int) < (n : Int) := by omega
                    have hk0 : (0 : Int) ≤ (i : Int) := by omega
                    have hd1' := hw4.1
                    have hd4' := hw4.2
                    clear hc4 hc5 R4 hat hd hy hp' hw4
                    by_cases h2 : y = 65533
                    · subst h2
                      by_cases h1 : d = 1
                      · subst h1
                        have HYW := Lib.hid (show isWrong l i = true by rw [HW.out]; rfl)
                        by_cases hx : p' = x
                        · subst hx
                          gi_wp2
                          refine quiet_round rfl (by kernel_rfl) (by kernel_rfl) ?_
                          repeat (gi_big_quiet_step (fail))
                          refine wpQuietIn_nil ?_
                          intro _ hw'
                          obtain ⟨nq, hw''⟩ := hw'
                          subst hw''
                          have hgY : W.grownBy (wr.drewN nq) (some Wc.heap.size) := gr_trans hgw (gr_drewN _ _ _)
                          have hkY : KeepsOthers W (wr.drewN nq) := hkr.trans (ko_drewN _ _)
                          have c7Y : Boxed (wr.drewN nq) Wc.heap.size 3 (.int .i64 (i : Nat)) := c7r
                          have c2Y : Boxed (wr.drewN nq) w.heap.size 4 (.bool false) := c2
                          have d3Y : (wr.drewN nq).cell? ⟨w1.heap.size, 0, none⟩ = some (.int .i64 (n : Nat)) := d3
                          have d5Y : (wr.drewN nq).cell? ⟨w1.heap.size + 1 + 1, 0, none⟩ = some (.slice (some ⟨g5, o5, none⟩) (n + 1) gc5) := d5
                          have z5Y : (wr.drewN nq).cell? ⟨g5, o5 + i, none⟩ = some (.int .i64 (p' : Nat)) := z5
                          obtain ⟨Y, hY⟩ : ∃ Y, wr.drewN nq = Y := ⟨_, rfl⟩
                          rw [hY] at d5Y z5Y
                          rw [hY] at hgY hkY c7Y c2Y d3Y ⊢
                          clear hY
                          have d2Y := c2Y.cell
                          have f2Y := c2Y.frozen
                          have d7Y := c7Y.cell
                          have f7Y := c7Y.frozen
                          gi_wp2
                          have hgZ := gr_trans hgY (grownBy_setCell' Y Wc.heap.size (.int .i64 ((i : Int) + 1)))
                          have hkZ := hkY.trans (KeepsOthers.setCell Y ⟨Wc.heap.size, 0, none⟩ (.int .i64 ((i : Int) + 1)))
                          refine ⟨hkZ.from _, ⟨⟨hkZ.walks, gr_below (Below.refl _ W) hgZ (by omega) (by omega)⟩, hgZ.block _ (by omega) (by simp; omega)⟩, ⟨i + 1, by omega, by rw [wrTo_yes l i HYW.out, HP.out, HPRE.out, HWR.out], by rw [Int.natCast_add]; exact c7Y.set _⟩, gr_trans hgr hgZ⟩
                        · have hx1 : ((p' : Int) != (x : Int)) = true := bne_iff_ne.2 (by omega)
                          have HM := Lib.hid (wr_other (HPRE.out.trans HWR.out.symm) hlt HYW.out (by rw [HP.out]; exact hx))
                          clear hx
                          gi_wp2
                          refine quiet_round rfl (by kernel_rfl) (by kernel_rfl) ?_
                          repeat (gi_big_quiet_step (fail))
                          refine wpQuietIn_nil ?_
                          intro _ hw'
                          obtain ⟨nq, hw''⟩ := hw'
                          subst hw''
                          have hgY : W.grownBy (wr.drewN nq) (some Wc.heap.size) := gr_trans hgw (gr_drewN _ _ _)
                          have hkY : KeepsOthers W (wr.drewN nq) := hkr.trans (ko_drewN _ _)
                          have c7Y : Boxed (wr.drewN nq) Wc.heap.size 3 (.int .i64 (i : Nat)) := c7r
                          have c2Y : Boxed (wr.drewN nq) w.heap.size 4 (.bool false) := c2
                          have d3Y : (wr.drewN nq).cell? ⟨w1.heap.size, 0, none⟩ = some (.int .i64 (n : Nat)) := d3
                          have d5Y : (wr.drewN nq).cell? ⟨w1.heap.size + 1 + 1, 0, none⟩ = some (.slice (some ⟨g5, o5, none⟩) (n + 1) gc5) := d5
                          have z5Y : (wr.drewN nq).cell? ⟨g5, o5 + i, none⟩ = some (.int .i64 (p' : Nat)) := z5
                          obtain ⟨Y, hY⟩ : ∃ Y, wr.drewN nq = Y := ⟨_, rfl⟩
                          rw [hY] at d5Y z5Y
                          rw [hY] at hgY hkY c7Y c2Y d3Y ⊢
                          clear hY
                          have d2Y := c2Y.cell
                          have f2Y := c2Y.frozen
                          have d7Y := c7Y.cell
                          have f7Y := c7Y.frozen
                          gi_wp2
                          exact ⟨(hkY.trans (KeepsOthers.setCell _ _ _)).from _, rfl, HM.out⟩
                      · have hd1 : ((d : Int) != 1) = true := bne_iff_ne.2 (by omega)
                        have HNW := Lib.hid (show isWrong l i = false by rw [HW.out, beq_eq_false_iff_ne.2 (show (d : Int) ≠ 1 by omega), Bool.and_false])
                        clear h1
                        gi_wp2
                        refine quiet_round rfl (by kernel_rfl) (by kernel_rfl) ?_
                        repeat (gi_big_quiet_step (fail))
                        refine wpQuietIn_nil ?_
                        intro _ hw'
                        obtain ⟨nq, hw''⟩ := hw'
                        subst hw''
                        have hgY : W.grownBy (wr.drewN nq) (some Wc.heap.size) := gr_trans hgw (gr_drewN _ _ _)
                        have hkY : KeepsOthers W (wr.drewN nq) := hkr.trans (ko_drewN _ _)
                        have c7Y : Boxed (wr.drewN nq) Wc.heap.size 3 (.int .i64 (i : Nat)) := c7r
                        have c2Y : Boxed (wr.drewN nq) w.heap.size 4 (.bool false) := c2
                        have d3Y : (wr.drewN nq).cell? ⟨w1.heap.size, 0, none⟩ = some (.int .i64 (n : Nat)) := d3
                        obtain ⟨Y, hY⟩ : ∃ Y, wr.drewN nq = Y := ⟨_, rfl⟩
                        rw [hY] at hgY hkY c7Y c2Y d3Y ⊢
                        clear hY
                        have d2Y := c2Y.cell
                        have f2Y := c2Y.frozen
                        have d7Y := c7Y.cell
                        have f7Y := c7Y.frozen
                        gi_wp2
                        have e : boxN (Y.setCell ⟨Wc.heap.size, 0, none⟩ (.int .i64 ((i : Int) + 1))) Wc.heap.size = i + 1 := by rw [boxN_of (c7Y.set _)]; omega
                        go_roundw
                        case rel => exact ⟨i + 1, by omega, by omega, by rw [wrTo_no l i HNW.out]; exact HWR.out, by rw [Int.natCast_add]; exact c7Y.set _, gr_trans hgY (grownBy_setCell' _ _ _), hkY.trans (KeepsOthers.setCell _ _ _)⟩
                        case measure => rw [e, HBN.out, Int.toNat_natCast]; omega
                    · have hd1 : ((y : Int) != 65533) = true := bne_iff_ne.2 (by omega)
                      have HNW := Lib.hid (show isWrong l i = false by rw [HW.out, beq_eq_false_iff_ne.2 (show (y : Int) ≠ 65533 by omega), Bool.false_and])
                      clear h2
                      gi_wp2
                      refine quiet_round rfl (by kernel_rfl) (by kernel_rfl) ?_
                      repeat (gi_big_quiet_step (fail))
                      refine wpQuietIn_nil ?_
                      intro _ hw'
                      obtain ⟨nq, hw''⟩ := hw'
                      subst hw''
                      have hgY : W.grownBy (wr.drewN nq) (some Wc.heap.size) := gr_trans hgw (gr_drewN _ _ _)
                      have hkY : KeepsOthers W (wr.drewN nq) := hkr.trans (ko_drewN _ _)
                      have c7Y : Boxed (wr.drewN nq) Wc.heap.size 3 (.int .i64 (i : Nat)) := c7r
                      have c2Y : Boxed (wr.drewN nq) w.heap.size 4 (.bool false) := c2
                      have d3Y : (wr.drewN nq).cell? ⟨w1.heap.size, 0, none⟩ = some (.int .i64 (n : Nat)) := d3
                      obtain ⟨Y, hY⟩ : ∃ Y, wr.drewN nq = Y := ⟨_, rfl⟩
                      rw [hY] at hgY hkY c7Y c2Y d3Y ⊢
                      clear hY
                      have d2Y := c2Y.cell
                      have f2Y := c2Y.frozen
                      have d7Y := c7Y.cell
                      have f7Y := c7Y.frozen
                      gi_wp2
                      have e : boxN (Y.setCell ⟨Wc.heap.size, 0, none⟩ (.int .i64 ((i : Int) + 1))) Wc.heap.size = i + 1 := by rw [boxN_of (c7Y.set _)]; omega
                      go_roundw
                      case rel => exact ⟨i + 1, by omega, by omega, by rw [wrTo_no l i HNW.out]; exact HWR.out, by rw [Int.natCast_add]; exact c7Y.set _, gr_trans hgY (grownBy_setCell' _ _ _), hkY.trans (KeepsOthers.setCell _ _ _)⟩
                      case measure => rw [e, HBN.out, Int.toNat_natCast]; omega
                  · have hie : i = n := by omega
                    have HM := Lib.hid (wr_none (x := x) HPRE.out (show wrTo l n = wrTo l j by have := HWR.out; rw [hie] at this; exact this))
                    have hk1 : (n : Int) ≤ (i : Int) := by omega
                    have hbf : decide (i < n) = false := decide_eq_false hlt
                    clear hie hlt hin
                    gi_wp2
                    refine quiet_round rfl (by kernel_rfl) (by kernel_rfl) ?_
                    repeat (gi_big_quiet_step (fail))
                    refine wpQuietIn_nil ?_
                    intro _ hw'
                    obtain ⟨nq, hw''⟩ := hw'
                    subst hw''
                    have hgY : W.grownBy (wr.drewN nq) (some Wc.heap.size) := gr_trans hgw (gr_drewN _ _ _)
                    have hkY : KeepsOthers W (wr.drewN nq) := hkr.trans (ko_drewN _ _)
                    have c7Y : Boxed (wr.drewN nq) Wc.heap.size 3 (.int .i64 (i : Nat)) := c7r
                    have c2Y : Boxed (wr.drewN nq) w.heap.size 4 (.bool false) := c2
                    have d3Y : (wr.drewN nq).cell? ⟨w1.heap.size, 0, none⟩ = some (.int .i64 (n : Nat)) := d3
                    obtain ⟨Y, hY⟩ : ∃ Y, wr.drewN nq = Y := ⟨_, rfl⟩
                    rw [hY] at hgY hkY c7Y c2Y d3Y ⊢
                    clear hY
                    have d2Y := c2Y.cell
                    have f2Y := c2Y.frozen
                    have d7Y := c7Y.cell
                    have f7Y := c7Y.frozen
                    gi_wp2
                    exact ⟨(hkY.trans (KeepsOthers.setCell _ _ _)).from _, rfl, HM.out⟩
              case stop2 =>
                rintro D c pre W hD ⟨k', hk', rfl⟩ ⟨rfl, hnp⟩ hK
                exact absurd (wrTo_prefix _ hk') hnp
              case done2 =>
                rintro D2 ys V2 hD2 rfl ⟨⟨j, hj, hj2, b7V⟩, hgr⟩ kD2V
                have hbV : Below Wc.heap.size Wc V2 := gr_below hbX hgr (by omega) (by omega)
                have hD2' : V1.heap.size + 1 ≤ D2 := Nat.le_trans hszX hD2
                have lD2 : D2 < V2.heap.size := (Array.getElem?_eq_some_iff.1 kD2V).1
                have hszV2 : V1.heap.size + 1 ≤ V2.heap.size := Nat.le_trans hszX hgr.size
                have kD0V2 : V2.heap[D0]? = some (.deferred (some [])) := (hgr.block _ (Array.getElem?_eq_some_iff.1 kD0X).1 (by simp; omega)).trans kD0X
                have kD1V2 : V2.heap[D1]? = some (.deferred (some [])) := (hgr.block _ (Array.getElem?_eq_some_iff.1 kD1X).1 (by simp; omega)).trans kD1X
                have HJ2 := Lib.hid hj2
                have h7V2 := b7V.lt
                clear b7X b8X hbX hszX h7X hgr kD0X kD1X hst2 hj2 hD2
                go_wp2_with fail
                go_loopw [] (fun wr => ∃ i, j ≤ i ∧ i ≤ n ∧ wrTo l i = wrTo l n ∧ Boxed wr Wc.heap.size 3 (.int .i64 (i : Nat)) ∧ V2.grownBy wr (some Wc.heap.size) ∧ KeepsOthers V2 wr) (fun wr => n - boxN wr Wc.heap.size)
                case atStart => exact ⟨j, Nat.le_refl _, hj, HJ2.out.symm, b7V, gr_refl _ _, KeepsOthers.refl _⟩
                case round =>
                  obtain ⟨i, hji, hin, hwr, c7r, hgw, hkr⟩ := hrel
                  have hbW : Below Wc.heap.size Wc wr := gr_below hbV hgw (by omega) (by omega)
                  obtain ⟨c2, d3, d4, d5, R4, R5⟩ := FA.out wr hbW
                  have d2 := c2.cell
                  have f2 := c2.frozen
                  have d7 := c7r.cell
                  have f7 := c7r.frozen
                  have hi3 : i ≤ 3000 := by omega
                  have HBN := Lib.hid (boxN_of c7r)
                  have HWR := Lib.hid hwr
                  clear hwr
                  by_cases hlt : i < n
                  · have HNW := Lib.hid (wr_stop HWR.out hlt)
                    obtain ⟨g4, o4, rfl, hc4⟩ := R4 (by omega)
                    obtain ⟨g5, o5, rfl, hc5⟩ := R5
                    have z4 := hc4 i hlt
                    have z5 := hc5 i (by omega)
                    have z6 := hc5 (i + 1) (by omega)
                    have hat := atN_succ l i (by rw [HN.out]; exact hlt)
                    have hw4 := (tk_wid l ((tk l)[i]?.getD (0, 0)) (by rw [List.getElem?_eq_getElem (show i < (tk l).length by have := HN.out; unfold countN at this; omega)]; exact List.getElem_mem _))
                    obtain ⟨d, hd⟩ : ∃ d, ((tk l)[i]?.getD (0, 0)).2 = d := ⟨_, rfl⟩
                    obtain ⟨y, hy⟩ : ∃ y, ((tk l)[i]?.getD (0, 0)).1 = y := ⟨_, rfl⟩
                    rw [hd] at hat hw4
                    have HW := Lib.hid (isWrong_of hy hat (by rw [HN.out]; exact hlt))
                    have hp3 : atN l i ≤ 3000 := by have := (cut_at l i (by rw [HN.out]; exact hin)).1; omega
                    obtain ⟨p', hp'⟩ : ∃ p', atN l i = p' := ⟨_, rfl⟩
                    rw [hat, hp', Int.natCast_add] at z6
                    rw [hp'] at z5 hp3
                    rw [hy] at z4
                    have HP := Lib.hid hp'
                    have hki : (i : Int) < (n : Int) := by omega
                    have hk0 : (0 : Int) ≤ (i : Int) := by omega
                    have hd1' := hw4.1
                    have hd4' := hw4.2
                    clear hc4 hc5 R4 hat hd hy hp' hw4
                    by_cases h2 : y = 65533
                    · subst h2
                      have h1 : d ≠ 1 := by
                        intro e
                        subst e
                        have := HNW.out
                        rw [HW.out] at this
                        simp at this
                      have hd1 : ((d : Int) != 1) = true := bne_iff_ne.2 (by omega)
                      clear h1
                      go_wp2_with fail
                      go_quiet (fail)
                      have hgY : V2.grownBy (wr.drewN nq) (some Wc.heap.size) := gr_trans hgw (gr_drewN _ _ _)
                      have hkY : KeepsOthers V2 (wr.drewN nq) := hkr.trans (ko_drewN _ _)
                      have c7Y : Boxed (wr.drewN nq) Wc.heap.size 3 (.int .i64 (i : Nat)) := c7r
                      have c2Y : Boxed (wr.drewN nq) w.heap.size 4 (.bool false) := c2
                      have d3Y : (wr.drewN nq).cell? ⟨w1.heap.size, 0, none⟩ = some (.int .i64 (n : Nat)) := d3
                      obtain ⟨Y, hY⟩ : ∃ Y, wr.drewN nq = Y := ⟨_, rfl⟩
                      rw [hY] at hgY hkY c7Y c2Y d3Y ⊢
                      clear hY
                      have d2Y := c2Y.cell
                      have f2Y := c2Y.frozen
                      have d7Y := c7Y.cell
                      have f7Y := c7Y.frozen
                      go_wp2_with fail
                      have e : boxN (Y.setCell ⟨Wc.heap.size, 0, none⟩ (.int .i64 ((i : Int) + 1))) Wc.heap.size = i + 1 := by rw [boxN_of (c7Y.set _)]; omega
                      exact ⟨⟨i + 1, by omega, by omega, by rw [wrTo_no l i HNW.out]; exact HWR.out, by rw [Int.natCast_add]; exact c7Y.set _, gr_trans hgY (grownBy_setCell' _ _ _), hkY.trans (KeepsOthers.setCell _ _ _)⟩, by rw [e, HBN.out, Int.toNat_natCast]; omega⟩
                    · have hd1 : ((y : Int) != 65533) = true := bne_iff_ne.2 (by omega)
                      clear h2
                      go_wp2_with fail
                      go_quiet (fail)
                      have hgY : V2.grownBy (wr.drewN nq) (some Wc.heap.size) := gr_trans hgw (gr_drewN _ _ _)
                      have hkY : KeepsOthers V2 (wr.drewN nq) := hkr.trans (ko_drewN _ _)
                      have c7Y : Boxed (wr.drewN nq) Wc.heap.size 3 (.int .i64 (i : Nat)) := c7r
                      have c2Y : Boxed (wr.drewN nq) w.heap.size 4 (.bool false) := c2
                      have d3Y : (wr.drewN nq).cell? ⟨w1.heap.size, 0, none⟩ = some (.int .i64 (n : Nat)) := d3
                      obtain ⟨Y, hY⟩ : ∃ Y, wr.drewN nq = Y := ⟨_, rfl⟩
                      rw [hY] at hgY hkY c7Y c2Y d3Y ⊢
                      clear hY
                      have d2Y := c2Y.cell
                      have f2Y := c2Y.frozen
                      have d7Y := c7Y.cell
                      have f7Y := c7Y.frozen
                      go_wp2_with fail
                      have e : boxN (Y.setCell ⟨Wc.heap.size, 0, none⟩ (.int .i64 ((i : Int) + 1))) Wc.heap.size = i + 1 := by rw [boxN_of (c7Y.set _)]; omega
                      exact ⟨⟨i + 1, by omega, by omega, by rw [wrTo_no l i HNW.out]; exact HWR.out, by rw [Int.natCast_add]; exact c7Y.set _, gr_trans hgY (grownBy_setCell' _ _ _), hkY.trans (KeepsOthers.setCell _ _ _)⟩, by rw [e, HBN.out, Int.toNat_natCast]; omega⟩
                  · have hie : i = n := by omega
                    have hk1 : (n : Int) ≤ (i : Int) := by omega
                    have hk2 : ((i : Int) == (n : Int)) = true := beq_iff_eq.2 (by omega)
                    have hbf : decide (i < n) = false := decide_eq_false hlt
                    clear hie hlt hin
                    go_wp2_with fail
                    go_quiet (fail)
                    have hgY : V2.grownBy (wr.drewN nq) (some Wc.heap.size) := gr_trans hgw (gr_drewN _ _ _)
                    have hkY : KeepsOthers V2 (wr.drewN nq) := hkr.trans (ko_drewN _ _)
                    have c7Y : Boxed (wr.drewN nq) Wc.heap.size 3 (.int .i64 (i : Nat)) := c7r
                    have c2Y : Boxed (wr.drewN nq) w.heap.size 4 (.bool false) := c2
                    have d3Y : (wr.drewN nq).cell? ⟨w1.heap.size, 0, none⟩ = some (.int .i64 (n : Nat)) := d3
                    obtain ⟨Y, hY⟩ : ∃ Y, wr.drewN nq = Y := ⟨_, rfl⟩
                    rw [hY] at hgY hkY c7Y c2Y d3Y ⊢
                    clear hY
                    have d2Y := c2Y.cell
                    have f2Y := c2Y.frozen
                    have d7Y := c7Y.cell
                    have f7Y := c7Y.frozen
                    go_wp2_with fail
                    have hbY : Below w.heap.size w Y := hbwc.trans ((gr_below hbV hgY (by omega) (by omega)).mono hbwc.size)
                    have hb5 : Below w.heap.size w (Y.setCell ⟨w.heap.size, 0, none⟩ (.bool true)) := hbY.setCell (p := ⟨w.heap.size, 0, none⟩) (Nat.le_refl _) _
                    have c5 : Boxed (Y.setCell ⟨w.heap.size, 0, none⟩ (.bool true)) w.heap.size 4 (.bool true) := c2Y.set _
                    have kS := hkY.trans (KeepsOthers.setCell Y ⟨w.heap.size, 0, none⟩ (.bool true))
                    have q0 := kS.same D0 _ kD0V2 rfl
                    have q1 := kS.same D1 _ kD1V2 rfl
                    have q2 := kS.same D2 _ kD2V rfl
                    obtain ⟨W5, hW5⟩ : ∃ W5, Y.setCell ⟨w.heap.size, 0, none⟩ (.bool true) = W5 := ⟨_, rfl⟩
                    rw [hW5] at q0 q1 q2 hb5 c5 ⊢
                    clear hW5
                    have r1 : (W5.putObj D2 (.deferred none)).heap[D1]? = some (.deferred (some [])) := (World.putObj_heap_other (by omega)).trans q1
                    have r0 : ((W5.putObj D2 (.deferred none)).putObj D1 (.deferred none)).heap[D0]? = some (.deferred (some [])) := (World.putObj_heap_other (by omega)).trans ((World.putObj_heap_other (by omega)).trans q0)
                    have c6 : Boxed (((W5.putObj D2 (.deferred none)).putObj D1 (.deferred none)).putObj D0 (.deferred none)) w.heap.size 4 (.bool true) := (World.putObj_heap_other (by omega)).trans ((World.putObj_heap_other (by omega)).trans ((World.putObj_heap_other (by omega)).trans c5))
                    refine ⟨by simp, .inl ⟨_, _, rfl, run_takeDeferred q2, ?_⟩⟩
                    refine ⟨by simp, .inl ⟨_, _, rfl, run_takeDeferred r1, ?_⟩⟩
                    refine ⟨by simp, .inl ⟨_, _, rfl, run_takeDeferred r0, ?_⟩⟩
                    have hc6 := c6.cell
                    refine ⟨.bool true, ?_, rfl, ((hb5.trans (belowK_b (w := w) (Nat.le_refl _) _ D2 _ _ (by omega) q2 rfl rfl)).trans (belowK_b (w := w) (Nat.le_refl _) _ D1 _ _ (by omega) r1 rfl rfl)).trans (belowK_b (w := w) (Nat.le_refl _) _ D0 _ _ (by omega) r0 rfl rfl)⟩
                    simp [results, Tryd.f13, go_sem, hc6]
end Go.Proofs.YtnfjohlbpbonhaaDoor
