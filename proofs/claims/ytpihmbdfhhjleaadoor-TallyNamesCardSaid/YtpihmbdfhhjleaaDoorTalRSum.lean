/-
  The contract of the document's Sum.
-/
import Derived.Test.YtpihmbdfhhjleaaDoorTalRow
namespace Go.Proofs.YtpihmbdfhhjleaaDoor
open Go.RowKit

theorem below_undrew {W W' : World} (h : Below W.drew.heap.size W.drew W') : Below W.heap.size W W' := ⟨h.os, h.tape, h.output, h.size, h.block⟩
theorem ten_keep {w W W' : World} {p0 p1 p2 p3 p4 p5 p6 p7 p8 p9 : Nat} {g0 g1 : Nat} {v0 v1 v2 v3 v4 v5 v6 v7 v8 v9 : Value}
    (H : W.cell? ⟨g0, p0, none⟩ = some v0 ∧ W.cell? ⟨g0, p1, none⟩ = some v1 ∧ W.cell? ⟨g0, p2, none⟩ = some v2 ∧ W.cell? ⟨g0, p3, none⟩ = some v3 ∧ W.cell? ⟨g0, p4, none⟩ = some v4 ∧ W.cell? ⟨g1, p5, none⟩ = some v5 ∧ W.cell? ⟨g1, p6, none⟩ = some v6 ∧ W.cell? ⟨g1, p7, none⟩ = some v7 ∧ W.cell? ⟨g1, p8, none⟩ = some v8 ∧ W.cell? ⟨g1, p9, none⟩ = some v9 ∧ Below w.heap.size w W) (hb : Below W.heap.size W W') :
    W'.cell? ⟨g0, p0, none⟩ = some v0 ∧ W'.cell? ⟨g0, p1, none⟩ = some v1 ∧ W'.cell? ⟨g0, p2, none⟩ = some v2 ∧ W'.cell? ⟨g0, p3, none⟩ = some v3 ∧ W'.cell? ⟨g0, p4, none⟩ = some v4 ∧ W'.cell? ⟨g1, p5, none⟩ = some v5 ∧ W'.cell? ⟨g1, p6, none⟩ = some v6 ∧ W'.cell? ⟨g1, p7, none⟩ = some v7 ∧ W'.cell? ⟨g1, p8, none⟩ = some v8 ∧ W'.cell? ⟨g1, p9, none⟩ = some v9 ∧ Below w.heap.size w W' :=
  ⟨cell_keep H.1 hb, cell_keep H.2.1 hb, cell_keep H.2.2.1 hb, cell_keep H.2.2.2.1 hb, cell_keep H.2.2.2.2.1 hb, cell_keep H.2.2.2.2.2.1 hb, cell_keep H.2.2.2.2.2.2.1 hb, cell_keep H.2.2.2.2.2.2.2.1 hb, cell_keep H.2.2.2.2.2.2.2.2.1 hb, cell_keep H.2.2.2.2.2.2.2.2.2.1 hb, nx H.2.2.2.2.2.2.2.2.2.2 hb⟩

theorem ten_set {w W : World} {p0 p1 p2 p3 p4 p5 p6 p7 p8 p9 : Nat} {g0 g1 q : Nat} {v0 v1 v2 v3 v4 v5 v6 v7 v8 v9 : Value}
    (H : W.cell? ⟨g0, p0, none⟩ = some v0 ∧ W.cell? ⟨g0, p1, none⟩ = some v1 ∧ W.cell? ⟨g0, p2, none⟩ = some v2 ∧ W.cell? ⟨g0, p3, none⟩ = some v3 ∧ W.cell? ⟨g0, p4, none⟩ = some v4 ∧ W.cell? ⟨g1, p5, none⟩ = some v5 ∧ W.cell? ⟨g1, p6, none⟩ = some v6 ∧ W.cell? ⟨g1, p7, none⟩ = some v7 ∧ W.cell? ⟨g1, p8, none⟩ = some v8 ∧ W.cell? ⟨g1, p9, none⟩ = some v9 ∧ Below w.heap.size w W) (y : Rec) (h0 : g0 ≠ q) (h1 : g1 ≠ q) (hq : w.heap.size ≤ q) :
    (((((W.setCell ⟨q, 0, none⟩ (.int .i64 y.b)).setCell ⟨q, 1, none⟩ (.int .i64 y.c)).setCell ⟨q, 2, none⟩ (.int .i64 y.l)).setCell ⟨q, 3, none⟩ (.string y.h)).setCell ⟨q, 4, none⟩ (.string y.t)).cell? ⟨g0, p0, none⟩ = some v0 ∧ (((((W.setCell ⟨q, 0, none⟩ (.int .i64 y.b)).setCell ⟨q, 1, none⟩ (.int .i64 y.c)).setCell ⟨q, 2, none⟩ (.int .i64 y.l)).setCell ⟨q, 3, none⟩ (.string y.h)).setCell ⟨q, 4, none⟩ (.string y.t)).cell? ⟨g0, p1, none⟩ = some v1 ∧ (((((W.setCell ⟨q, 0, none⟩ (.int .i64 y.b)).setCell ⟨q, 1, none⟩ (.int .i64 y.c)).setCell ⟨q, 2, none⟩ (.int .i64 y.l)).setCell ⟨q, 3, none⟩ (.string y.h)).setCell ⟨q, 4, none⟩ (.string y.t)).cell? ⟨g0, p2, none⟩ = some v2 ∧ (((((W.setCell ⟨q, 0, none⟩ (.int .i64 y.b)).setCell ⟨q, 1, none⟩ (.int .i64 y.c)).setCell ⟨q, 2, none⟩ (.int .i64 y.l)).setCell ⟨q, 3, none⟩ (.string y.h)).setCell ⟨q, 4, none⟩ (.string y.t)).cell? ⟨g0, p3, none⟩ = some v3 ∧ (((((W.setCell ⟨q, 0, none⟩ (.int .i64 y.b)).setCell ⟨q, 1, none⟩ (.int .i64 y.c)).setCell ⟨q, 2, none⟩ (.int .i64 y.l)).setCell ⟨q, 3, none⟩ (.string y.h)).setCell ⟨q, 4, none⟩ (.string y.t)).cell? ⟨g0, p4, none⟩ = some v4 ∧ (((((W.setCell ⟨q, 0, none⟩ (.int .i64 y.b)).setCell ⟨q, 1, none⟩ (.int .i64 y.c)).setCell ⟨q, 2, none⟩ (.int .i64 y.l)).setCell ⟨q, 3, none⟩ (.string y.h)).setCell ⟨q, 4, none⟩ (.string y.t)).cell? ⟨g1, p5, none⟩ = some v5 ∧ (((((W.setCell ⟨q, 0, none⟩ (.int .i64 y.b)).setCell ⟨q, 1, none⟩ (.int .i64 y.c)).setCell ⟨q, 2, none⟩ (.int .i64 y.l)).setCell ⟨q, 3, none⟩ (.string y.h)).setCell ⟨q, 4, none⟩ (.string y.t)).cell? ⟨g1, p6, none⟩ = some v6 ∧ (((((W.setCell ⟨q, 0, none⟩ (.int .i64 y.b)).setCell ⟨q, 1, none⟩ (.int .i64 y.c)).setCell ⟨q, 2, none⟩ (.int .i64 y.l)).setCell ⟨q, 3, none⟩ (.string y.h)).setCell ⟨q, 4, none⟩ (.string y.t)).cell? ⟨g1, p7, none⟩ = some v7 ∧ (((((W.setCell ⟨q, 0, none⟩ (.int .i64 y.b)).setCell ⟨q, 1, none⟩ (.int .i64 y.c)).setCell ⟨q, 2, none⟩ (.int .i64 y.l)).setCell ⟨q, 3, none⟩ (.string y.h)).setCell ⟨q, 4, none⟩ (.string y.t)).cell? ⟨g1, p8, none⟩ = some v8 ∧ (((((W.setCell ⟨q, 0, none⟩ (.int .i64 y.b)).setCell ⟨q, 1, none⟩ (.int .i64 y.c)).setCell ⟨q, 2, none⟩ (.int .i64 y.l)).setCell ⟨q, 3, none⟩ (.string y.h)).setCell ⟨q, 4, none⟩ (.string y.t)).cell? ⟨g1, p9, none⟩ = some v9 ∧ Below w.heap.size w (((((W.setCell ⟨q, 0, none⟩ (.int .i64 y.b)).setCell ⟨q, 1, none⟩ (.int .i64 y.c)).setCell ⟨q, 2, none⟩ (.int .i64 y.l)).setCell ⟨q, 3, none⟩ (.string y.h)).setCell ⟨q, 4, none⟩ (.string y.t)) := by
  obtain ⟨a0, a1, a2, a3, a4, a5, a6, a7, a8, a9, hb⟩ := H
  exact ⟨(set5_other W q y _ h0).trans a0, (set5_other W q y _ h0).trans a1, (set5_other W q y _ h0).trans a2, (set5_other W q y _ h0).trans a3, (set5_other W q y _ h0).trans a4, (set5_other W q y _ h1).trans a5, (set5_other W q y _ h1).trans a6, (set5_other W q y _ h1).trans a7, (set5_other W q y _ h1).trans a8, (set5_other W q y _ h1).trans a9, set5_below hb q y hq⟩

set_option maxHeartbeats 2000000 in
theorem rsum_any (ao : Option Addr) (n cap : Nat) (xs : List Rec) (hl : xs.length = n) (hn : n ≤ 4398046511104) (hf : ∀ i (hi : i < xs.length), (xs[i]'hi).fit) (z : Rec) (e : Int) (hz : sumGo zeroR xs = (z, e)) (w : World) (hR : RowT w ao xs) :
    Calls Tryd.prog 21 #[.slice ao n cap] w fun r w' => r = .returned (.tuple #[.agg #[.int .i64 z.b, .int .i64 z.c, .int .i64 z.l, .string z.h, .string z.t], .int .i64 e]) ∧ Below w.heap.size w w' := by
  have HR := Lib.hid hR
  have HL := Lib.hid hl
  have HF := Lib.hid hf
  have HZ := Lib.hid hz
  clear hR hl hf hz
  go_enter Tryd.func21, Tryd.ntmps21
  go_wp2_with fail
  go_loopw [5] (fun i wr => ∃ k tc, k ≤ n ∧ i = .int .i64 (k : Nat) ∧ Hid (tc.fit ∧ sumGo tc (xs.drop k) = (z, e)) ∧ Hid (BoxAt wr (w.heap.size + 1) tc.b tc.c tc.l tc.h tc.t ∧ (∀ j, wr.frozen? ⟨w.heap.size + 1, j, none⟩ = false) ∧ ZeroAt wr w.heap.size) ∧ Below w.heap.size w wr) (fun i _ => n - (intOf i).toNat)
  case atStart =>
    refine ⟨0, zeroR, Nat.zero_le _, rfl, ⟨zeroR_fit, HZ.out⟩, ⟨?_, ?_, ?_⟩, al (al (Below.refl _ _) _) _⟩
    · have := BoxAt.new (w.alloc (.cells #[.int .i64 0, .int .i64 0, .int .i64 0, .string ⟨#[]⟩, .string ⟨#[]⟩] 23)) 0 0 0 ⟨#[]⟩ ⟨#[]⟩
      rwa [World.size_alloc] at this
    · intro j
      exact World.frozen?_alloc_at _ _ _ _ (by rw [World.size_alloc])
    · exact (ZeroAt.new w).keep ((Below.refl _ _).alloc (Nat.le_refl _) _)
  case round =>
    obtain ⟨k, tc, hk, rfl, hg, hm, hb⟩ := hrel
    by_cases hlt : k < n
    · have hlx : k < xs.length := by rw [HL.out]; exact hlt
      obtain ⟨x, hx⟩ : ∃ x, xs[k]'hlx = x := ⟨_, rfl⟩
      obtain ⟨g, o, rfl, hre⟩ := (HR.out.keep hb) k hlx
      rw [hx] at hre
      have hxf := HF.out k hlx
      rw [hx] at hxf
      have hsg := hg.out.2
      rw [List.drop_eq_getElem_cons hlx, hx, sumGo] at hsg
      obtain ⟨y, e2, hy⟩ : ∃ y e2, joinF tc x = (y, e2) := ⟨_, _, rfl⟩
      have HY := Lib.hid (joinF_fit tc x hg.out.1 hxf)
      have HJ := Lib.hid (rjoin_rec tc x hg.out.1 hxf y e2 hy)
      rw [hy] at hsg HY
      have HS := Lib.hid hsg
      obtain ⟨e0, e1, e2', e3, e4⟩ := hre
      obtain ⟨t0, t1, t2, t3, t4⟩ := hm.out.1
      have hlt2 := World.block_lt_of_cell? wr _ t0
      have hS := And.intro t0 (And.intro t1 (And.intro t2 (And.intro t3 (And.intro t4 (And.intro e0 (And.intro e1 (And.intro e2' (And.intro e3 (And.intro e4 hb)))))))))
      have hne1 : g ≠ wr.heap.size := Nat.ne_of_lt (World.block_lt_of_cell? wr _ e0)
      have hne0 : w.heap.size + 1 ≠ wr.heap.size := Nat.ne_of_lt hlt2
      have hqq : w.heap.size ≤ wr.heap.size := hb.size
      have hki : (k : Int) < (n : Int) := by omega
      have hk0 : (0 : Int) ≤ (k : Int) := by omega
      clear hsg hy hx hxf e0 e1 e2' e3 e4 t0 t1 t2 t3 t4
      go_wp2_with fail
      go_region_held3 (fun w' => w'.cell? ⟨w.heap.size + 1, 0, none⟩ = some (.int .i64 tc.b) ∧ w'.cell? ⟨w.heap.size + 1, 1, none⟩ = some (.int .i64 tc.c) ∧ w'.cell? ⟨w.heap.size + 1, 2, none⟩ = some (.int .i64 tc.l) ∧ w'.cell? ⟨w.heap.size + 1, 3, none⟩ = some (.string tc.h) ∧ w'.cell? ⟨w.heap.size + 1, 4, none⟩ = some (.string tc.t) ∧ w'.cell? ⟨g, o + k * 5, none⟩ = some (.int .i64 x.b) ∧ w'.cell? ⟨g, o + k * 5 + 1, none⟩ = some (.int .i64 x.c) ∧ w'.cell? ⟨g, o + k * 5 + 2, none⟩ = some (.int .i64 x.l) ∧ w'.cell? ⟨g, o + k * 5 + 3, none⟩ = some (.string x.h) ∧ w'.cell? ⟨g, o + k * 5 + 4, none⟩ = some (.string x.t) ∧ Below w.heap.size w w') (first | (with_reducible assumption) | (with_reducible exact hSw) | (with_reducible exact ten_keep hS (Below.refl _ _).drew) | (with_reducible exact ten_keep hSw ((Below.refl _ _).alloc (Nat.le_refl _) _)) | (with_reducible exact ten_set hSw y hne0 hne1 hqq) | (with_reducible exact ten_keep hS ((Below.refl _ _).alloc (Nat.le_refl _) _).drew))
        (first | (go_at_call 19; (with_reducible refine (HJ.out _).mono ?_); rintro r w' ⟨rfl, hb'⟩; (first | (with_reducible have hSw := ten_keep (W := wr.drew) (ten_keep hS (Below.refl _ _).drew) hb') | (with_reducible have hSw := ten_keep (ten_keep hS ((Below.refl _ _).alloc (Nat.le_refl _) _)) (below_undrew hb'))); try ((with_reducible have hzc := zero_cells (w := wr) (below_undrew hb')); obtain ⟨qr, qz⟩ := hzc; have q0 : w'.cell? ⟨wr.heap.size, 0, none⟩ = some (.int .i64 0) := qr 0; have q1 : w'.cell? ⟨wr.heap.size, 1, none⟩ = some (.int .i64 0) := qr 1; have q2 : w'.cell? ⟨wr.heap.size, 2, none⟩ = some (.int .i64 0) := qr 2; have q3 : w'.cell? ⟨wr.heap.size, 3, none⟩ = some (.string ⟨#[]⟩) := qr 3; have q4 : w'.cell? ⟨wr.heap.size, 4, none⟩ = some (.string ⟨#[]⟩) := qr 4; have s0 : w'.frozen? ⟨wr.heap.size, 0, none⟩ = false := qz 0; have s1 : w'.frozen? ⟨wr.heap.size, 1, none⟩ = false := qz 1; have s2 : w'.frozen? ⟨wr.heap.size, 2, none⟩ = false := qz 2; have s3 : w'.frozen? ⟨wr.heap.size, 3, none⟩ = false := qz 3; have s4 : w'.frozen? ⟨wr.heap.size, 4, none⟩ = false := qz 4; clear qr qz)))
      · have hbw := below_undrew hb'
        have hal := (Below.refl w'.heap.size w').alloc (Nat.le_refl _) (.cells #[.int .i64 y.b, .int .i64 y.c, .int .i64 y.l, .string y.h, .string y.t] 23)
        have hlw : w.heap.size + 1 < w'.heap.size := Nat.lt_of_lt_of_le hlt2 hbw.size
        have B4 := (hm.out.1.keep hbw).keep hal
        have Z4 := (hm.out.2.2.keep hbw).keep hal
        have F4 := fun j => (hal.frozen (p := ⟨w.heap.size + 1, j, none⟩) hlw).trans ((hbw.frozen (p := ⟨w.heap.size + 1, j, none⟩) hlt2).trans (hm.out.2.1 j))
        have Y4 := BoxAt.new w' y.b y.c y.l y.h y.t
        have hbb := nx (nx hb hbw) hal
        obtain ⟨q, hq⟩ : ∃ q, q = w'.heap.size := ⟨_, rfl⟩
        obtain ⟨W3, hW3⟩ : ∃ W3, W3 = w'.alloc (.cells #[.int .i64 y.b, .int .i64 y.c, .int .i64 y.l, .string y.h, .string y.t] 23) := ⟨_, rfl⟩
        rw [← hW3] at B4 Z4 F4 Y4 hbb ⊢
        rw [← hq] at Y4 ⊢
        clear hW3 hq hal hbw hlw hSw hS hb'
        clear hne0 hne1 hki hk0
        have hlt4 : w.heap.size + 1 < W3.heap.size := World.block_lt_of_cell? W3 _ B4.1
        by_cases he2 : e2 = 0
        · have hq : (e2 != 0) = false := by simp [he2]
          have HN := Lib.hid (show sumGo y (xs.drop (k + 1)) = (z, e) by have := HS.out; rwa [if_pos he2] at this)
          have HB4 := Lib.hid B4
          have HF4 := Lib.hid F4
          have HZ4 := Lib.hid Z4
          obtain ⟨c0, c1, c2, c3, c4⟩ := B4
          obtain ⟨d0, d1, d2, d3, d4⟩ := Y4
          have f0 := F4 0
          have f1 := F4 1
          have f2 := F4 2
          have f3 := F4 3
          have f4 := F4 4
          clear he2 F4 Z4
          go_wp2_with fail
          go_roundw
          case rel =>
            exact ⟨k + 1, y, by omega, by go_num, ⟨HY.out, HN.out⟩, ⟨set5_at HB4.out y, fun j => (set5_frozen W3 _ y _).trans (HF4.out j), set5_zero HZ4.out y (by omega)⟩, set5_below hbb (w.heap.size + 1) y (by omega)⟩
          case measure => simp [intOf]; omega
        · have hq : (e2 != 0) = true := bne_iff_ne.2 he2
          have hze := HS.out
          rw [if_neg he2] at hze
          obtain ⟨hz1, hz2⟩ := Prod.mk.inj hze
          subst hz1 hz2
          obtain ⟨hr, hz, _⟩ := Z4
          have r0 := hr 0
          have r1 := hr 1
          have r2 := hr 2
          have r3 := hr 3
          have r4 := hr 4
          have z0 := hz 0
          have z1 := hz 1
          have z2 := hz 2
          have z3 := hz 3
          have z4 := hz 4
          clear hr hz hze he2 F4 B4 Y4
          simp only [List.getElem?_toArray, List.getElem?_cons_zero, List.getElem?_cons_succ] at r0 r1 r2 r3 r4
          go_wp2_with fail
          refine bodyPost_ret (v := .tuple #[.agg #[.int .i64 0, .int .i64 0, .int .i64 0, .string ⟨#[]⟩, .string ⟨#[]⟩], .int .i64 e2]) (by simp [results, Tryd.results21, go_sem, r0, r1, r2, r3, r4]) rfl ⟨rfl, ?_⟩
          exact ((((hbb.setCell (Nat.le_refl _) _).setCell (Nat.le_refl _) _).setCell (Nat.le_refl _) _).setCell (Nat.le_refl _) _).setCell (Nat.le_refl _) _
      · have hbw : Below wr.heap.size wr w' := ((Below.refl wr.heap.size wr).alloc (Nat.le_refl _) (.cells #[.int .i64 0, .int .i64 0, .int .i64 0, .string ⟨#[]⟩, .string ⟨#[]⟩] 23)).trans ((below_undrew hb').mono (by rw [World.size_alloc]; omega))
        have hlw : w.heap.size + 1 < w'.heap.size := Nat.lt_of_lt_of_le hlt2 hbw.size
        have B0 := hm.out.1.keep hbw
        have B4 : BoxAt (set5 w' wr.heap.size y) (w.heap.size + 1) tc.b tc.c tc.l tc.h tc.t := ⟨(set5_other w' _ y _ hne0).trans B0.1, (set5_other w' _ y _ hne0).trans B0.2.1, (set5_other w' _ y _ hne0).trans B0.2.2.1, (set5_other w' _ y _ hne0).trans B0.2.2.2.1, (set5_other w' _ y _ hne0).trans B0.2.2.2.2⟩
        have Z4 := set5_zero (hm.out.2.2.keep hbw) (g := wr.heap.size) y (by omega)
        have F4 := fun j => (set5_frozen w' wr.heap.size y ⟨w.heap.size + 1, j, none⟩).trans ((hbw.frozen (p := ⟨w.heap.size + 1, j, none⟩) hlt2).trans (hm.out.2.1 j))
        have Y4 := set5_at (W := w') (g := wr.heap.size) (b := 0) (c := 0) (l := 0) (h := ⟨#[]⟩) (t := ⟨#[]⟩) ⟨q0, q1, q2, q3, q4⟩ y
        have hbb := set5_below (nx hb hbw) wr.heap.size y hqq
        obtain ⟨q, hq⟩ : ∃ q, q = wr.heap.size := ⟨_, rfl⟩
        obtain ⟨W3, hW3⟩ : ∃ W3, W3 = set5 w' wr.heap.size y := ⟨_, rfl⟩
        rw [← hW3] at B4 Z4 F4 Y4 hbb
        unfold set5 at hW3
        rw [← hW3]
        rw [← hq] at Y4 ⊢
        clear hW3 hq hbw hlw hSw hS hb' B0 q0 q1 q2 q3 q4 s0 s1 s2 s3 s4
        clear hne0 hne1 hki hk0
        have hlt4 : w.heap.size + 1 < W3.heap.size := World.block_lt_of_cell? W3 _ B4.1
        by_cases he2 : e2 = 0
        · have hq : (e2 != 0) = false := by simp [he2]
          have HN := Lib.hid (show sumGo y (xs.drop (k + 1)) = (z, e) by have := HS.out; rwa [if_pos he2] at this)
          have HB4 := Lib.hid B4
          have HF4 := Lib.hid F4
          have HZ4 := Lib.hid Z4
          obtain ⟨c0, c1, c2, c3, c4⟩ := B4
          obtain ⟨d0, d1, d2, d3, d4⟩ := Y4
          have f0 := F4 0
          have f1 := F4 1
          have f2 := F4 2
          have f3 := F4 3
          have f4 := F4 4
          clear he2 F4 Z4
          go_wp2_with fail
          go_roundw
          case rel =>
            exact ⟨k + 1, y, by omega, by go_num, ⟨HY.out, HN.out⟩, ⟨set5_at HB4.out y, fun j => (set5_frozen W3 _ y _).trans (HF4.out j), set5_zero HZ4.out y (by omega)⟩, set5_below hbb (w.heap.size + 1) y (by omega)⟩
          case measure => simp [intOf]; omega
        · have hq : (e2 != 0) = true := bne_iff_ne.2 he2
          have hze := HS.out
          rw [if_neg he2] at hze
          obtain ⟨hz1, hz2⟩ := Prod.mk.inj hze
          subst hz1 hz2
          obtain ⟨hr, hz, _⟩ := Z4
          have r0 := hr 0
          have r1 := hr 1
          have r2 := hr 2
          have r3 := hr 3
          have r4 := hr 4
          have z0 := hz 0
          have z1 := hz 1
          have z2 := hz 2
          have z3 := hz 3
          have z4 := hz 4
          clear hr hz hze he2 F4 B4 Y4
          simp only [List.getElem?_toArray, List.getElem?_cons_zero, List.getElem?_cons_succ] at r0 r1 r2 r3 r4
          go_wp2_with fail
          refine bodyPost_ret (v := .tuple #[.agg #[.int .i64 0, .int .i64 0, .int .i64 0, .string ⟨#[]⟩, .string ⟨#[]⟩], .int .i64 e2]) (by simp [results, Tryd.results21, go_sem, r0, r1, r2, r3, r4]) rfl ⟨rfl, ?_⟩
          exact ((((hbb.setCell (Nat.le_refl _) _).setCell (Nat.le_refl _) _).setCell (Nat.le_refl _) _).setCell (Nat.le_refl _) _).setCell (Nat.le_refl _) _
    · obtain rfl : k = n := by omega
      have hze := hg.out.2
      rw [List.drop_of_length_le (by rw [HL.out]; exact Nat.le_refl _), sumGo] at hze
      obtain ⟨hz1, hz2⟩ := Prod.mk.inj hze
      subst hz1 hz2
      obtain ⟨t0, t1, t2, t3, t4⟩ := hm.out.1
      obtain ⟨hr, hz, _⟩ := hm.out.2.2
      have r0 := hr 0
      have r1 := hr 1
      have r2 := hr 2
      have r3 := hr 3
      have r4 := hr 4
      have z0 := hz 0
      have z1 := hz 1
      have z2 := hz 2
      have z3 := hz 3
      have z4 := hz 4
      clear hr hz hze
      simp only [List.getElem?_toArray, List.getElem?_cons_zero, List.getElem?_cons_succ] at r0 r1 r2 r3 r4
      go_wp2_with fail
      refine bodyPost_ret (v := .tuple #[.agg #[.int .i64 tc.b, .int .i64 tc.c, .int .i64 tc.l, .string tc.h, .string tc.t], .int .i64 0]) (by simp [results, Tryd.results21, go_sem, r0, r1, r2, r3, r4]) rfl ⟨rfl, ?_⟩
      exact ((((hb.setCell (Nat.le_refl _) _).setCell (Nat.le_refl _) _).setCell (Nat.le_refl _) _).setCell (Nat.le_refl _) _).setCell (Nat.le_refl _) _
end Go.Proofs.YtpihmbdfhhjleaaDoor
