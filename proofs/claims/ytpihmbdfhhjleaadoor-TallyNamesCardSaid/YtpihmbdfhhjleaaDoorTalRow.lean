/-
  Rows of tallies, and what joining them one behind the other comes to.
-/
import Derived.Test.YtpihmbdfhhjleaaDoorChecks
namespace Go.Proofs.YtpihmbdfhhjleaaDoor
open Go.RowKit

/-- a tally, as a record -/
structure Rec where
  b : Int
  c : Int
  l : Int
  h : ByteArray
  t : ByteArray
def Rec.v (x : Rec) : Value := .agg #[.int .i64 x.b, .int .i64 x.c, .int .i64 x.l, .string x.h, .string x.t]
def Rec.fit (x : Rec) : Prop := Fit x.b x.c x.l x.h x.t
def Rec.ok (x : Rec) : Bool := okB x.b x.c x.l (bs x.h) (bs x.t)
def zeroR : Rec := ⟨0, 0, 0, ⟨#[]⟩, ⟨#[]⟩⟩
theorem zeroR_fit : zeroR.fit := ⟨by decide, by decide, by decide, by decide, by decide⟩
def RecAt (W : World) (g o : Nat) (x : Rec) : Prop :=
  W.cell? ⟨g, o, none⟩ = some (.int .i64 x.b) ∧ W.cell? ⟨g, o + 1, none⟩ = some (.int .i64 x.c) ∧ W.cell? ⟨g, o + 2, none⟩ = some (.int .i64 x.l) ∧ W.cell? ⟨g, o + 3, none⟩ = some (.string x.h) ∧ W.cell? ⟨g, o + 4, none⟩ = some (.string x.t)
theorem RecAt.keep {W W' : World} {g o : Nat} {x : Rec} (H : RecAt W g o x) (hb : Below W.heap.size W W') : RecAt W' g o x :=
  ⟨cell_keep H.1 hb, cell_keep H.2.1 hb, cell_keep H.2.2.1 hb, cell_keep H.2.2.2.1 hb, cell_keep H.2.2.2.2 hb⟩

/-- a row of tallies that is read -/
def RowT (W : World) (ao : Option Addr) (xs : List Rec) : Prop :=
  ∀ i (hi : i < xs.length), ∃ g o, ao = some ⟨g, o, none⟩ ∧ RecAt W g (o + i * 5) (xs[i]'hi)
theorem RowT.keep {W W' : World} {ao : Option Addr} {xs : List Rec} (H : RowT W ao xs) (hb : Below W.heap.size W W') : RowT W' ao xs := by
  intro i hi
  obtain ⟨g, o, e, h⟩ := H i hi
  exact ⟨g, o, e, h.keep hb⟩

/-- what joining two comes to -/
def joinF (x y : Rec) : Rec × Int :=
  if (x.ok && y.ok) = false then (zeroR, 30)
  else if 9223372036854775807 - y.b < x.b then (zeroR, 2)
  else if okB (x.b + y.b) (x.c + y.c + seamC (bs x.t) (bs y.h)) (IntKind.i64.wrap (x.l + y.l + seamL (bs x.t) (bs y.h))) (hd3 (bs x.h ++ bs y.h)) (tl3 (bs x.t ++ bs y.t)) = true then
    (⟨x.b + y.b, x.c + y.c + seamC (bs x.t) (bs y.h), IntKind.i64.wrap (x.l + y.l + seamL (bs x.t) (bs y.h)), sB (hd3 (bs x.h ++ bs y.h)), sB (tl3 (bs x.t ++ bs y.t))⟩, 0)
  else (zeroR, 30)

theorem joinF_fit (x y : Rec) (hx : x.fit) (hy : y.fit) : (joinF x y).1.fit := by
  unfold joinF
  split
  · exact zeroR_fit
  · split
    · exact zeroR_fit
    · split
      · rename_i h1 h2 h3
        have hoo : x.ok = true ∧ y.ok = true := by simpa using h1
        have f1 := okB_facts hoo.1
        have f2 := okB_facts hoo.2
        have f3 := okB_facts h3
        have hsb := seam_bounds (bs x.t) (bs y.h)
        have e1 := hx.b
        have e2 := hy.b
        refine ⟨by show _ ≤ x.b + y.b ∧ x.b + y.b ≤ _; omega, by show _ ≤ x.c + y.c + _ ∧ x.c + y.c + _ ≤ _; omega, by show _ ≤ IntKind.i64.wrap _ ∧ IntKind.i64.wrap _ ≤ _; rw [IntKind.wrap_i64]; omega, ?_, ?_⟩
        · show (sB _).size ≤ _
          rw [sB_size, hd3_len]; omega
        · show (sB _).size ≤ _
          rw [sB_size, tl3_len]; omega
      · exact zeroR_fit

theorem joinF_val (x y : Rec) (h : (x.ok && y.ok) = true) : Value.tuple #[(joinF x y).1.v, .int .i64 (joinF x y).2] = joinV x.b x.c x.l (bs x.h) (bs x.t) y.b y.c y.l (bs y.h) (bs y.t) (seamC (bs x.t) (bs y.h)) (seamL (bs x.t) (bs y.h)) := by
  unfold joinF joinV
  rw [if_neg (by rw [h]; decide)]
  split
  · rfl
  · split <;> rfl
theorem joinF_none (x y : Rec) (h : (x.ok && y.ok) = false) : joinF x y = (zeroR, 30) := if_pos h

theorem join_rec (x y : Rec) (hx : x.fit) (hy : y.fit) (z : Rec) (e : Int) (hz : joinF x y = (z, e)) (w : World) (hT : Tabs w) :
    Calls Tryd.prog 18 #[.agg #[.int .i64 x.b, .int .i64 x.c, .int .i64 x.l, .string x.h, .string x.t], .agg #[.int .i64 y.b, .int .i64 y.c, .int .i64 y.l, .string y.h, .string y.t]] w fun r w' =>
      r = .returned (.tuple #[.agg #[.int .i64 z.b, .int .i64 z.c, .int .i64 z.l, .string z.h, .string z.t], .int .i64 e]) ∧ Below w.heap.size w w' := by
  by_cases h : (x.ok && y.ok) = true
  · have hoo : x.ok = true ∧ y.ok = true := by simpa using h
    have := join_yes x.b x.c x.l x.h x.t y.b y.c y.l y.h y.t hx hy hoo.1 hoo.2 _ _ rfl rfl w hT
    rw [← joinF_val x y h, hz] at this
    exact this
  · have h' : (x.ok && y.ok) = false := by simpa using h
    have := join_no x.b x.c x.l x.h x.t y.b y.c y.l y.h y.t hx hy h' w hT
    rw [joinF_none x y h'] at hz
    obtain ⟨rfl, rfl⟩ := Prod.mk.inj hz
    exact this
theorem rjoin_rec (x y : Rec) (hx : x.fit) (hy : y.fit) (z : Rec) (e : Int) (hz : joinF x y = (z, e)) (w : World) :
    Calls Tryd.prog 19 #[.agg #[.int .i64 x.b, .int .i64 x.c, .int .i64 x.l, .string x.h, .string x.t], .agg #[.int .i64 y.b, .int .i64 y.c, .int .i64 y.l, .string y.h, .string y.t]] w fun r w' =>
      r = .returned (.tuple #[.agg #[.int .i64 z.b, .int .i64 z.c, .int .i64 z.l, .string z.h, .string z.t], .int .i64 e]) ∧ Below w.heap.size w w' := by
  by_cases h : (x.ok && y.ok) = true
  · have hoo : x.ok = true ∧ y.ok = true := by simpa using h
    have := rjoin_yes x.b x.c x.l x.h x.t y.b y.c y.l y.h y.t hx hy hoo.1 hoo.2 _ _ rfl rfl w
    rw [← joinF_val x y h, hz] at this
    exact this
  · have h' : (x.ok && y.ok) = false := by simpa using h
    have := rjoin_no x.b x.c x.l x.h x.t y.b y.c y.l y.h y.t hx hy h' w
    rw [joinF_none x y h'] at hz
    obtain ⟨rfl, rfl⟩ := Prod.mk.inj hz
    exact this

/-- the sum -/
def sumGo : Rec → List Rec → Rec × Int
  | t, [] => (t, 0)
  | t, x :: r => if (joinF t x).2 = 0 then sumGo (joinF t x).1 r else (zeroR, (joinF t x).2)

/-- five stores into a block -/
def set5 (W : World) (g : Nat) (x : Rec) : World := ((((W.setCell ⟨g, 0, none⟩ (.int .i64 x.b)).setCell ⟨g, 1, none⟩ (.int .i64 x.c)).setCell ⟨g, 2, none⟩ (.int .i64 x.l)).setCell ⟨g, 3, none⟩ (.string x.h)).setCell ⟨g, 4, none⟩ (.string x.t)
theorem sc_other (W : World) (a b : Addr) (v : Value) (h : a ≠ b) : (W.setCell a v).cell? b = W.cell? b := World.cell?_setCell_other W a b v h
theorem sc_same (W : World) (a : Addr) (v u : Value) (h : W.cell? a = some u) : (W.setCell a v).cell? a = some v := World.cell?_setCell_same W a v h
theorem off_ne {g i j : Nat} (h : i ≠ j) : (⟨g, i, none⟩ : Addr) ≠ ⟨g, j, none⟩ := fun e => h (by injection e)
theorem blk_ne {g i : Nat} {p : Addr} (h : p.block ≠ g) : (⟨g, i, none⟩ : Addr) ≠ p := fun e => h (by rw [← e])
theorem set5_size (W : World) (g : Nat) (x : Rec) : (set5 W g x).heap.size = W.heap.size := by unfold set5; simp only [size_setCell]
theorem set5_other (W : World) (g : Nat) (x : Rec) (p : Addr) (h : p.block ≠ g) : (set5 W g x).cell? p = W.cell? p := by
  unfold set5
  rw [sc_other _ _ _ _ (blk_ne h), sc_other _ _ _ _ (blk_ne h), sc_other _ _ _ _ (blk_ne h), sc_other _ _ _ _ (blk_ne h), sc_other _ _ _ _ (blk_ne h)]
theorem set5_frozen (W : World) (g : Nat) (x : Rec) (p : Addr) : (set5 W g x).frozen? p = W.frozen? p := by
  unfold set5; simp
theorem set5_below {B : Nat} {w W : World} (h : Below B w W) (g : Nat) (x : Rec) (hg : B ≤ g) : Below B w (set5 W g x) := by
  unfold set5
  exact ((((h.setCell hg _).setCell hg _).setCell hg _).setCell hg _).setCell hg _
theorem set5_at {W : World} {g : Nat} {b c l : Int} {h t : ByteArray} (H : BoxAt W g b c l h t) (y : Rec) : BoxAt (set5 W g y) g y.b y.c y.l y.h y.t := by
  unfold set5
  refine ⟨?_, ?_, ?_, ?_, ?_⟩
  · rw [sc_other _ _ _ _ (off_ne (by decide)), sc_other _ _ _ _ (off_ne (by decide)), sc_other _ _ _ _ (off_ne (by decide)), sc_other _ _ _ _ (off_ne (by decide))]
    exact sc_same _ _ _ _ H.1
  · rw [sc_other _ _ _ _ (off_ne (by decide)), sc_other _ _ _ _ (off_ne (by decide)), sc_other _ _ _ _ (off_ne (by decide))]
    exact sc_same _ _ _ _ (by rw [sc_other _ _ _ _ (off_ne (by decide))]; exact H.2.1)
  · rw [sc_other _ _ _ _ (off_ne (by decide)), sc_other _ _ _ _ (off_ne (by decide))]
    exact sc_same _ _ _ _ (by rw [sc_other _ _ _ _ (off_ne (by decide)), sc_other _ _ _ _ (off_ne (by decide))]; exact H.2.2.1)
  · rw [sc_other _ _ _ _ (off_ne (by decide))]
    exact sc_same _ _ _ _ (by rw [sc_other _ _ _ _ (off_ne (by decide)), sc_other _ _ _ _ (off_ne (by decide)), sc_other _ _ _ _ (off_ne (by decide))]; exact H.2.2.2.1)
  · exact sc_same _ _ _ _ (by rw [sc_other _ _ _ _ (off_ne (by decide)), sc_other _ _ _ _ (off_ne (by decide)), sc_other _ _ _ _ (off_ne (by decide)), sc_other _ _ _ _ (off_ne (by decide))]; exact H.2.2.2.2)
theorem set5_zero {W : World} {g g' : Nat} (H : ZeroAt W g') (x : Rec) (h : g' ≠ g) : ZeroAt (set5 W g x) g' :=
  ⟨fun i => (set5_other W g x ⟨g', i, none⟩ h).trans (H.1 i), fun i => (set5_frozen W g x _).trans (H.2.1 i), by rw [set5_size]; exact H.2.2⟩

set_option maxHeartbeats 2000000 in
theorem sum_any (ao : Option Addr) (n cap : Nat) (xs : List Rec) (hl : xs.length = n) (hn : n ≤ 4398046511104) (hf : ∀ i (hi : i < xs.length), (xs[i]'hi).fit) (z : Rec) (e : Int) (hz : sumGo zeroR xs = (z, e)) (w : World) (hT : Tabs w) (hR : RowT w ao xs) :
    Calls Tryd.prog 20 #[.slice ao n cap] w fun r w' => r = .returned (.tuple #[.agg #[.int .i64 z.b, .int .i64 z.c, .int .i64 z.l, .string z.h, .string z.t], .int .i64 e]) ∧ Below w.heap.size w w' := by
  have HT := Lib.hid hT
  have HR := Lib.hid hR
  have HL := Lib.hid hl
  have HF := Lib.hid hf
  have HZ := Lib.hid hz
  clear hT hR hl hf hz
  go_enter Tryd.func20, Tryd.ntmps20
  go_wp2_with fail
  go_loopw [11] (fun i wr => ∃ k tc, k ≤ n ∧ i = .int .i64 (k : Nat) ∧ Hid (tc.fit ∧ sumGo tc (xs.drop k) = (z, e)) ∧ Hid (BoxAt wr (w.heap.size + 1) tc.b tc.c tc.l tc.h tc.t ∧ (∀ j, wr.frozen? ⟨w.heap.size + 1, j, none⟩ = false) ∧ ZeroAt wr w.heap.size) ∧ Below w.heap.size w wr) (fun i _ => n - (intOf i).toNat)
  case atStart =>
    refine ⟨0, zeroR, Nat.zero_le _, rfl, ⟨zeroR_fit, HZ.out⟩, ⟨?_, ?_, ?_⟩, al (al (Below.refl _ _) _) _⟩
    · have := BoxAt.new (w.alloc (.cells #[.int .i64 0, .int .i64 0, .int .i64 0, .string ⟨#[]⟩, .string ⟨#[]⟩] 23)) 0 0 0 ⟨#[]⟩ ⟨#[]⟩
      rwa [World.size_alloc] at this
    · intro j
      exact World.frozen?_alloc_at _ _ _ _ (by rw [World.size_alloc])
    · exact (ZeroAt.new w).keep ((Below.refl _ _).alloc (Nat.le_refl _) _)
  case round =>
    obtain ⟨k, tc, hk, rfl, hg, hm, hb⟩ := hrel
    by_cases hlt : k < n
    · have hlx : k < xs.length := by rw [HL.out]; exact hlt
      obtain ⟨x, hx⟩ : ∃ x, xs[k]'hlx = x := ⟨_, rfl⟩
      obtain ⟨g, o, rfl, hre⟩ := (HR.out.keep hb) k hlx
      rw [hx] at hre
      have hxf := HF.out k hlx
      rw [hx] at hxf
      have hsg := hg.out.2
      rw [List.drop_eq_getElem_cons hlx, hx, sumGo] at hsg
      obtain ⟨y, e2, hy⟩ : ∃ y e2, joinF tc x = (y, e2) := ⟨_, _, rfl⟩
      have HY := Lib.hid (joinF_fit tc x hg.out.1 hxf)
      have HJ := Lib.hid (join_rec tc x hg.out.1 hxf y e2 hy)
      rw [hy] at hsg HY
      have HS := Lib.hid hsg
      obtain ⟨e0, e1, e2', e3, e4⟩ := hre
      obtain ⟨t0, t1, t2, t3, t4⟩ := hm.out.1
      clear hsg hy hx hxf
      have hlt2 := World.block_lt_of_cell? wr _ t0
      have hal := (Below.refl wr.heap.size wr).alloc (Nat.le_refl _) (.cells #[.int .i64 x.b, .int .i64 x.c, .int .i64 x.l, .string x.h, .string x.t] 23)
      have hb2 := nx hb hal
      have B4 := Lib.hid (hm.out.1.keep hal)
      have Z4 := Lib.hid (hm.out.2.2.keep hal)
      have F4 := Lib.hid (fun j => (hal.frozen (p := ⟨w.heap.size + 1, j, none⟩) hlt2).trans (hm.out.2.1 j))
      go_wp2_with fail
      (with_reducible refine (HJ.out _ (HT.out.below hb2 (Nat.le_refl _))).mono ?_)
      rintro r w1 ⟨rfl, hb1⟩
      have hbb := nx hb2 hb1
      have hlt3 : w.heap.size + 1 < (wr.alloc (.cells #[.int .i64 x.b, .int .i64 x.c, .int .i64 x.l, .string x.h, .string x.t] 23)).heap.size := by rw [World.size_alloc]; omega
      have B4 := Lib.hid (B4.out.keep hb1)
      have Z4 := Lib.hid (Z4.out.keep hb1)
      have F4 := Lib.hid (fun j => (hb1.frozen (p := ⟨w.heap.size + 1, j, none⟩) hlt3).trans (F4.out j))
      have hlt4 : w.heap.size + 1 < w1.heap.size := Nat.lt_of_lt_of_le hlt3 hb1.size
      have hlt5 : w.heap.size < w1.heap.size := by omega
      clear hb1 hb2 hal e0 e1 e2' e3 e4 t0 t1 t2 t3 t4 hlt3
      by_cases he2 : e2 = 0
      · have hq : (e2 != 0) = false := by simp [he2]
        have HN := Lib.hid (show sumGo y (xs.drop (k + 1)) = (z, e) by have := HS.out; rwa [if_pos he2] at this)
        obtain ⟨c0, c1, c2, c3, c4⟩ := B4.out
        have f0 := F4.out 0
        have f1 := F4.out 1
        have f2 := F4.out 2
        have f3 := F4.out 3
        have f4 := F4.out 4
        clear he2
        go_wp2_with fail
        go_roundw
        case rel =>
          have hs5 := set5_below hbb (w.heap.size + 1) y (by omega)
          have hl5 : w.heap.size + 1 < (set5 w1 (w.heap.size + 1) y).heap.size := by rw [set5_size]; exact hlt4
          refine ⟨k + 1, y, by omega, by go_num, ⟨HY.out, HN.out⟩, ⟨?_, ?_, ?_⟩, al hs5 _⟩
          · exact (set5_at B4.out y).keep ((Below.refl _ _).alloc (Nat.le_refl _) _)
          · intro j
            exact (World.frozen?_alloc_past _ _ _ hl5).trans ((set5_frozen w1 _ y _).trans (F4.out j))
          · exact (set5_zero Z4.out y (by omega)).keep ((Below.refl _ _).alloc (Nat.le_refl _) _)
        case measure => simp [intOf]; omega
      · have hq : (e2 != 0) = true := bne_iff_ne.2 he2
        have hze := HS.out
        rw [if_neg he2] at hze
        obtain ⟨hz1, hz2⟩ := Prod.mk.inj hze
        subst hz1 hz2
        obtain ⟨hr, hz, _⟩ := Z4.out
        have r0 := hr 0
        have r1 := hr 1
        have r2 := hr 2
        have r3 := hr 3
        have r4 := hr 4
        have z0 := hz 0
        have z1 := hz 1
        have z2 := hz 2
        have z3 := hz 3
        have z4 := hz 4
        clear hr hz hze he2
        simp only [List.getElem?_toArray, List.getElem?_cons_zero, List.getElem?_cons_succ] at r0 r1 r2 r3 r4
        go_wp2_with fail
        refine bodyPost_ret (v := .tuple #[.agg #[.int .i64 0, .int .i64 0, .int .i64 0, .string ⟨#[]⟩, .string ⟨#[]⟩], .int .i64 e2]) (by simp [results, Tryd.results20, go_sem, hlt5, r0, r1, r2, r3, r4]) rfl ⟨rfl, ?_⟩
        exact al (((((hbb.setCell (Nat.le_refl _) _).setCell (Nat.le_refl _) _).setCell (Nat.le_refl _) _).setCell (Nat.le_refl _) _).setCell (Nat.le_refl _) _) _
    · obtain rfl : k = n := by omega
      have hze := hg.out.2
      rw [List.drop_of_length_le (by rw [HL.out]; exact Nat.le_refl _), sumGo] at hze
      obtain ⟨hz1, hz2⟩ := Prod.mk.inj hze
      subst hz1 hz2
      obtain ⟨t0, t1, t2, t3, t4⟩ := hm.out.1
      obtain ⟨hr, hz, _⟩ := hm.out.2.2
      have r0 := hr 0
      have r1 := hr 1
      have r2 := hr 2
      have r3 := hr 3
      have r4 := hr 4
      have z0 := hz 0
      have z1 := hz 1
      have z2 := hz 2
      have z3 := hz 3
      have z4 := hz 4
      clear hr hz hze
      simp only [List.getElem?_toArray, List.getElem?_cons_zero, List.getElem?_cons_succ] at r0 r1 r2 r3 r4
      go_wp2_with fail
      refine bodyPost_ret (v := .tuple #[.agg #[.int .i64 tc.b, .int .i64 tc.c, .int .i64 tc.l, .string tc.h, .string tc.t], .int .i64 0]) (by simp [results, Tryd.results20, go_sem, r0, r1, r2, r3, r4]) rfl ⟨rfl, ?_⟩
      exact ((((hb.setCell (Nat.le_refl _) _).setCell (Nat.le_refl _) _).setCell (Nat.le_refl _) _).setCell (Nat.le_refl _) _).setCell (Nat.le_refl _) _
end Go.Proofs.YtpihmbdfhhjleaaDoor
