/-
  The walk of the law TallyNames: the errors' numbers, and tallies of odd texts.
-/
import Derived.Test.YtpihmbdfhhjleaaDoorSums
import Derived.Test.YtpihmbdfhhjleaaDoorTalWhole1
namespace Go.Proofs.YtpihmbdfhhjleaaDoor
open Go.RowKit

/-- the odd texts -/
def nm : Nat → ByteArray
  | 0 => ⟨#[]⟩
  | 1 => ⟨#[97]⟩
  | 2 => ⟨#[13]⟩
  | 3 => ⟨#[10]⟩
  | 4 => ⟨#[13, 10]⟩
  | 5 => ⟨#[10, 13]⟩
  | 6 => ⟨#[194, 133]⟩
  | 7 => ⟨#[194]⟩
  | 8 => ⟨#[133]⟩
  | 9 => ⟨#[226, 128]⟩
  | 10 => ⟨#[168]⟩
  | 11 => ⟨#[169]⟩
  | 12 => ⟨#[237, 160]⟩
  | 13 => ⟨#[128]⟩
  | 14 => ⟨#[240, 159]⟩
  | 15 => ⟨#[152, 128]⟩
  | 16 => ⟨#[244, 144]⟩
  | 17 => ⟨#[255]⟩
  | 18 => ⟨#[239, 191, 189]⟩
  | 19 => ⟨#[244, 143, 191, 191]⟩
  | 20 => ⟨#[224, 128]⟩
  | 21 => ⟨#[192, 138]⟩
  | 22 => ⟨#[97, 98, 99, 100, 101, 102, 103]⟩
  | _ => ⟨#[]⟩
theorem nm_size (i : Nat) : (nm i).size ≤ 7 := by
  unfold nm
  split <;> decide
def nmCells : Array Value := #[.string ⟨#[]⟩, .string ⟨#[97]⟩, .string ⟨#[13]⟩, .string ⟨#[10]⟩, .string ⟨#[13, 10]⟩, .string ⟨#[10, 13]⟩, .string ⟨#[194, 133]⟩, .string ⟨#[194]⟩, .string ⟨#[133]⟩, .string ⟨#[226, 128]⟩, .string ⟨#[168]⟩, .string ⟨#[169]⟩, .string ⟨#[237, 160]⟩, .string ⟨#[128]⟩, .string ⟨#[240, 159]⟩, .string ⟨#[152, 128]⟩, .string ⟨#[244, 144]⟩, .string ⟨#[255]⟩, .string ⟨#[239, 191, 189]⟩, .string ⟨#[244, 143, 191, 191]⟩, .string ⟨#[224, 128]⟩, .string ⟨#[192, 138]⟩, .string ⟨#[97, 98, 99, 100, 101, 102, 103]⟩]
theorem nm_at (i : Nat) (hi : i < 23) : nmCells[i]? = some (.string (nm i)) :=
  match i, hi with
  | 0, _ => rfl
  | 1, _ => rfl
  | 2, _ => rfl
  | 3, _ => rfl
  | 4, _ => rfl
  | 5, _ => rfl
  | 6, _ => rfl
  | 7, _ => rfl
  | 8, _ => rfl
  | 9, _ => rfl
  | 10, _ => rfl
  | 11, _ => rfl
  | 12, _ => rfl
  | 13, _ => rfl
  | 14, _ => rfl
  | 15, _ => rfl
  | 16, _ => rfl
  | 17, _ => rfl
  | 18, _ => rfl
  | 19, _ => rfl
  | 20, _ => rfl
  | 21, _ => rfl
  | 22, _ => rfl
  | _ + 23, h => absurd h (by omega)

theorem pk2 {w W W' : World} {g p0 p1 : Nat} {v0 v1 : Value} (H : W.cell? ⟨g, p0, none⟩ = some v0 ∧ W.cell? ⟨g, p1, none⟩ = some v1 ∧ Below w.heap.size w W) (hb : Below W.heap.size W W') :
    W'.cell? ⟨g, p0, none⟩ = some v0 ∧ W'.cell? ⟨g, p1, none⟩ = some v1 ∧ Below w.heap.size w W' := ⟨cell_keep H.1 hb, cell_keep H.2.1 hb, nx H.2.2 hb⟩
theorem pk2_set {w W : World} {g p0 p1 q : Nat} {v0 v1 : Value} (H : W.cell? ⟨g, p0, none⟩ = some v0 ∧ W.cell? ⟨g, p1, none⟩ = some v1 ∧ Below w.heap.size w W) (y : Rec) (h0 : g ≠ q) (hq : w.heap.size ≤ q) :
    (((((W.setCell ⟨q, 0, none⟩ (.int .i64 y.b)).setCell ⟨q, 1, none⟩ (.int .i64 y.c)).setCell ⟨q, 2, none⟩ (.int .i64 y.l)).setCell ⟨q, 3, none⟩ (.string y.h)).setCell ⟨q, 4, none⟩ (.string y.t)).cell? ⟨g, p0, none⟩ = some v0 ∧ (((((W.setCell ⟨q, 0, none⟩ (.int .i64 y.b)).setCell ⟨q, 1, none⟩ (.int .i64 y.c)).setCell ⟨q, 2, none⟩ (.int .i64 y.l)).setCell ⟨q, 3, none⟩ (.string y.h)).setCell ⟨q, 4, none⟩ (.string y.t)).cell? ⟨g, p1, none⟩ = some v1 ∧ Below w.heap.size w (((((W.setCell ⟨q, 0, none⟩ (.int .i64 y.b)).setCell ⟨q, 1, none⟩ (.int .i64 y.c)).setCell ⟨q, 2, none⟩ (.int .i64 y.l)).setCell ⟨q, 3, none⟩ (.string y.h)).setCell ⟨q, 4, none⟩ (.string y.t)) := by
  obtain ⟨a0, a1, hb⟩ := H
  exact ⟨(set5_other W q y _ h0).trans a0, (set5_other W q y _ h0).trans a1, set5_below hb q y hq⟩
theorem pk7 {w W W' : World} {g g' p0 p1 : Nat} {v0 v1 v2 v3 v4 y0 y1 : Value}
    (H : W.cell? ⟨g', 0, none⟩ = some v0 ∧ W.cell? ⟨g', 1, none⟩ = some v1 ∧ W.cell? ⟨g', 2, none⟩ = some v2 ∧ W.cell? ⟨g', 3, none⟩ = some v3 ∧ W.cell? ⟨g', 4, none⟩ = some v4 ∧ W.cell? ⟨g, p0, none⟩ = some y0 ∧ W.cell? ⟨g, p1, none⟩ = some y1 ∧ Below w.heap.size w W) (hb : Below W.heap.size W W') :
    W'.cell? ⟨g', 0, none⟩ = some v0 ∧ W'.cell? ⟨g', 1, none⟩ = some v1 ∧ W'.cell? ⟨g', 2, none⟩ = some v2 ∧ W'.cell? ⟨g', 3, none⟩ = some v3 ∧ W'.cell? ⟨g', 4, none⟩ = some v4 ∧ W'.cell? ⟨g, p0, none⟩ = some y0 ∧ W'.cell? ⟨g, p1, none⟩ = some y1 ∧ Below w.heap.size w W' :=
  ⟨cell_keep H.1 hb, cell_keep H.2.1 hb, cell_keep H.2.2.1 hb, cell_keep H.2.2.2.1 hb, cell_keep H.2.2.2.2.1 hb, cell_keep H.2.2.2.2.2.1 hb, cell_keep H.2.2.2.2.2.2.1 hb, nx H.2.2.2.2.2.2.2 hb⟩

theorem pk7_tabs {w W : World} {A B C D E F G : Prop} (H : A ∧ B ∧ C ∧ D ∧ E ∧ F ∧ G ∧ Below w.heap.size w W) (hT : Tabs w) : Tabs W := hT.below H.2.2.2.2.2.2.2 (Nat.le_refl _)
theorem rowT_odd (W : World) (O : Rec) : RowT (W.alloc (.cells #[.int .i64 8, .int .i64 2, .int .i64 0, .string ⟨#[97, 98, 99]⟩, .string ⟨#[240, 159, 152]⟩, .int .i64 O.b, .int .i64 O.c, .int .i64 O.l, .string O.h, .string O.t] 23)) (some ⟨W.heap.size, 0, none⟩) [⟨8, 2, 0, ⟨#[97, 98, 99]⟩, ⟨#[240, 159, 152]⟩⟩, O] := by
  intro i hi
  refine ⟨W.heap.size, 0, rfl, ?_⟩
  simp only [List.length_cons, List.length_nil] at hi
  obtain rfl | rfl : i = 0 ∨ i = 1 := by omega
  · refine ⟨?_, ?_, ?_, ?_, ?_⟩ <;> (rw [World.cell?_alloc_at _ _ _ _ rfl]; rfl)
  · refine ⟨?_, ?_, ?_, ?_, ?_⟩ <;> (rw [World.cell?_alloc_at _ _ _ _ rfl]; rfl)
theorem odd_fit : Fit 8 2 0 ⟨#[97, 98, 99]⟩ ⟨#[240, 159, 152]⟩ := ⟨by decide, by decide, by decide, by decide, by decide⟩
def bigR : Rec := ⟨4611686018427387904, 4611686018427387904, 0, ⟨#[97, 98, 99]⟩, ⟨#[97, 98, 99]⟩⟩
theorem big_fit : bigR.fit := ⟨by decide, by decide, by decide, by decide, by decide⟩
theorem big_ok : bigR.ok = true := by
  have h1 : okA 4611686018427387904 4611686018427387904 0 = true := by decide
  have h2 : okH 4611686018427387904 (bs ⟨#[97, 98, 99]⟩) (bs ⟨#[97, 98, 99]⟩) = true := by decide
  simp only [Rec.ok, okB, bigR, h1, h2, Bool.true_and, Bool.or_eq_true]
  exact .inl (decide_eq_true (by decide))
theorem big_join : joinF bigR bigR = (zeroR, 2) := by
  unfold joinF
  rw [if_neg (by rw [big_ok]; decide), if_pos (by decide)]

set_option maxRecDepth 100000 in
set_option maxHeartbeats 20000000 in
theorem tallyNames_any (w : World) (hT : Tabs w) :
    Calls Tryd.prog 7 #[] w fun e w' => e = .returned (.bool true) ∧ Below w.heap.size w w' := by
  have HT := Lib.hid hT
  clear hT
  go_enter Tryd.func7, Tryd.ntmps7
  go_wp2_with fail
  have HC : Hid (∀ i, i < 23 → (w.alloc (.cells nmCells 9)).cell? ⟨w.heap.size, i, none⟩ = some (.string (nm i))) := Lib.hid (fun i hi => by rw [World.cell?_alloc_at _ _ _ _ rfl, nm_at i hi])
  have hb := al (Below.refl w.heap.size w) (.cells nmCells 9)
  unfold nmCells at HC hb
  obtain ⟨W0, hW0⟩ : ∃ W0, W0 = w.alloc (.cells #[.string ⟨#[]⟩, .string ⟨#[97]⟩, .string ⟨#[13]⟩, .string ⟨#[10]⟩, .string ⟨#[13, 10]⟩, .string ⟨#[10, 13]⟩, .string ⟨#[194, 133]⟩, .string ⟨#[194]⟩, .string ⟨#[133]⟩, .string ⟨#[226, 128]⟩, .string ⟨#[168]⟩, .string ⟨#[169]⟩, .string ⟨#[237, 160]⟩, .string ⟨#[128]⟩, .string ⟨#[240, 159]⟩, .string ⟨#[152, 128]⟩, .string ⟨#[244, 144]⟩, .string ⟨#[255]⟩, .string ⟨#[239, 191, 189]⟩, .string ⟨#[244, 143, 191, 191]⟩, .string ⟨#[224, 128]⟩, .string ⟨#[192, 138]⟩, .string ⟨#[97, 98, 99, 100, 101, 102, 103]⟩]  9) := ⟨_, rfl⟩
  rw [← hW0] at HC hb ⊢
  have hlt : w.heap.size < W0.heap.size := by rw [hW0, World.size_alloc]; omega
  clear hW0
  have HT0 := Lib.hid (HT.out.below hb (Nat.le_refl _))
  go_loopw [2] (fun i wr => ∃ k, k ≤ 23 ∧ i = .int .i64 (k : Nat) ∧ Below W0.heap.size W0 wr) (fun i _ => 23 - (intOf i).toNat)
  case atStart => exact ⟨0, by omega, rfl, Below.refl _ _⟩
  case round =>
    obtain ⟨k, hk, rfl, h0⟩ := hrel
    by_cases hk23 : k < 23
    · have hki : (k : Int) < 23 := by omega
      go_wp2_with fail
      obtain ⟨W1, hW1⟩ : ∃ W1, W1 = wr := ⟨_, rfl⟩
      subst hW1
      go_loopw [3] (fun i wr => ∃ j, j ≤ 23 ∧ i = .int .i64 (j : Nat) ∧ Below W0.heap.size W0 wr) (fun i _ => 23 - (intOf i).toNat)
      case atStart => exact ⟨0, by omega, rfl, h0⟩
      case round =>
        obtain ⟨j, hj, rfl, h0⟩ := hrel
        by_cases hj23 : j < 23
        · have hji : (j : Int) < 23 := by omega
          have hk0 : (0 : Int) ≤ (k : Int) := by omega
          have hj0 : (0 : Int) ≤ (j : Int) := by omega
          obtain ⟨A, hA⟩ : ∃ A, nm k = A := ⟨_, rfl⟩
          obtain ⟨B, hB⟩ : ∃ B, nm j = B := ⟨_, rfl⟩
          have hAs := nm_size k
          have hBs := nm_size j
          have e0 := (h0.cell (p := ⟨w.heap.size, k, none⟩) hlt).trans (HC.out k hk23)
          have e1 := (h0.cell (p := ⟨w.heap.size, j, none⟩) hlt).trans (HC.out j hj23)
          rw [hA] at hAs e0
          rw [hB] at hBs e1
          have hct : ¬ (9223372036854775807 < A.size + B.size) := by omega
          clear hA hB
          go_wp2_with fail
          go_quiet (fail)
          have hal8 : (bs A).length ≤ 7 := by rw [← size_bs]; exact hAs
          have hbl8 : (bs B).length ≤ 7 := by rw [← size_bs]; exact hBs
          have hsz : (A ++ B).size = A.size + B.size := by simp [ByteArray.size_append]
          obtain ⟨X, hX⟩ : ∃ X, recOf (bs A) = X := ⟨_, rfl⟩
          obtain ⟨Y, hY⟩ : ∃ Y, recOf (bs B) = Y := ⟨_, rfl⟩
          obtain ⟨Z, hZ⟩ : ∃ Z, recOf (bs A ++ bs B) = Z := ⟨_, rfl⟩
          have hIX := recOf_is (bs A)
          have hIY := recOf_is (bs B)
          have hIZ := recOf_is (bs A ++ bs B)
          have hJ := joinF_of (bs A) (bs B) (by omega)
          have FX := recOf_fit (bs A) (by omega)
          have FY := recOf_fit (bs B) (by omega)
          rw [hX] at hIX FX hJ
          rw [hY] at hIY FY hJ
          rw [hZ] at hIZ hJ
          have HOA := Lib.hid (of_is (s := A) (by omega) hIX)
          have HOB := Lib.hid (of_is (s := B) (by omega) hIY)
          have HOZ := Lib.hid (of_is (s := A ++ B) (by omega) (by rw [bs_append]; exact hIZ))
          have HRA := Lib.hid (rof_is (s := A) (by omega) hIX)
          have HRB := Lib.hid (rof_is (s := B) (by omega) hIY)
          have HRZ := Lib.hid (rof_is (s := A ++ B) (by omega) (by rw [bs_append]; exact hIZ))
          have HJ := Lib.hid (join_rec X Y FX FY Z 0 hJ)
          have HTJ := Lib.hid (tallyJoins_any X.b X.c X.l X.h X.t FX Y.b Y.c Y.l Y.h Y.t FY)
          have H2 : (wr.drewN nq).cell? ⟨w.heap.size, k, none⟩ = some (.string A) ∧ (wr.drewN nq).cell? ⟨w.heap.size, j, none⟩ = some (.string B) ∧ Below W0.heap.size W0 (wr.drewN nq) := ⟨e0, e1, below_drewN h0 _⟩
          obtain ⟨W8, hW8⟩ : ∃ W8, wr.drewN nq = W8 := ⟨_, rfl⟩
          rw [hW8] at H2 ⊢
          clear hW8 hX hY hZ hIX hIY hIZ hJ FX FY e0 e1 hAs hBs hal8 hbl8 hsz hct
          have hS0 := H2
          obtain ⟨e0, e1, hb8⟩ := H2
          have hgq : W0.heap.size ≤ W8.heap.size := hb8.size
          have hne : w.heap.size ≠ W8.heap.size := Nat.ne_of_lt (World.block_lt_of_cell? W8 _ e0)
          go_wp2_with fail
          go_region_held3 (fun w' => w'.cell? ⟨w.heap.size, k, none⟩ = some (.string A) ∧ w'.cell? ⟨w.heap.size, j, none⟩ = some (.string B) ∧ Below W0.heap.size W0 w') (first | (with_reducible exact pk2_set hS3 Z hne2 hlt2) | (with_reducible exact pk2_set hS3 Z hne1 hlt1) | (with_reducible exact pk2_set hS3 Z hne hgq) | (with_reducible assumption) | (with_reducible exact pk2 hS0 (Below.refl _ _).drew) | (with_reducible exact pk2 hS0 ((Below.refl _ _).alloc (Nat.le_refl _) _).drew) | (with_reducible exact pk2 hS1 ((Below.refl _ _).alloc (Nat.le_refl _) _)) | (with_reducible exact pk2 hS2 ((Below.refl _ _).alloc (Nat.le_refl _) _)) | (with_reducible exact pk2 hS3 ((Below.refl _ _).alloc (Nat.le_refl _) _)))
            (first | (go_at_call 11; (with_reducible refine (HOA.out _).mono ?_); rintro r w1 ⟨rfl, hb1⟩; (first | (with_reducible have hS1 := pk2 (W := W8.drew) (pk2 hS0 (Below.refl _ _).drew) hb1) | ((with_reducible have hS1 := pk2 (pk2 hS0 ((Below.refl _ _).alloc (Nat.le_refl _) (.cells #[.int .i64 0, .int .i64 0, .int .i64 0, .string ⟨#[]⟩, .string ⟨#[]⟩] 23))) (below_undrew hb1)); have hZ1 := (ZeroAt.new W8).keep (below_undrew hb1)))) | (go_at_call 11; (with_reducible refine (HOB.out _).mono ?_); rintro r w2 ⟨rfl, hb2⟩; (first | ((with_reducible have hS2 := pk2 hS1 hb2); try have hZ2 := hZ1.keep hb2) | ((with_reducible have hS2 := pk2 (pk2 hS1 ((Below.refl _ _).alloc (Nat.le_refl _) (.cells #[.int .i64 0, .int .i64 0, .int .i64 0, .string ⟨#[]⟩, .string ⟨#[]⟩] 23))) hb2); have hZ2 := (ZeroAt.new w1).keep hb2; have hlt1 := hS1.2.2.size; have hne1 : w.heap.size ≠ w1.heap.size := Nat.ne_of_lt (World.block_lt_of_cell? w1 _ hS1.1)))) | (go_at_call 18; (first | (with_reducible refine (HJ.out _ (HT0.out.below hS2.2.2 (Nat.le_refl _))).mono ?_) | (with_reducible refine (HJ.out _ (HT0.out.below (al hS2.2.2 _) (Nat.le_refl _))).mono ?_)); rintro r w3 ⟨rfl, hb3⟩; (first | ((with_reducible have hS3 := pk2 hS2 hb3); try have hZ3 := hZ2.keep hb3) | ((with_reducible have hS3 := pk2 (pk2 hS2 ((Below.refl _ _).alloc (Nat.le_refl _) (.cells #[.int .i64 0, .int .i64 0, .int .i64 0, .string ⟨#[]⟩, .string ⟨#[]⟩] 23))) hb3); have hZ3 := (ZeroAt.new w2).keep hb3; have hlt2 := hS2.2.2.size; have hne2 : w.heap.size ≠ w2.heap.size := Nat.ne_of_lt (World.block_lt_of_cell? w2 _ hS2.1))); try (obtain ⟨qr, qz, _⟩ := hZ3; have q0 := qr 0; have q1 := qr 1; have q2 := qr 2; have q3 := qr 3; have q4 := qr 4; have s0 := qz 0; have s1 := qz 1; have s2 := qz 2; have s3 := qz 3; have s4 := qz 4; clear qr qz; simp only [List.getElem?_toArray, List.getElem?_cons_zero, List.getElem?_cons_succ] at q0 q1 q2 q3 q4)))
          · have T5 := BoxAt.new w3 Z.b Z.c Z.l Z.h Z.t
            have S5 := pk2 hS3 ((Below.refl _ _).alloc (Nat.le_refl _) (.cells #[.int .i64 Z.b, .int .i64 Z.c, .int .i64 Z.l, .string Z.h, .string Z.t] 23))
            obtain ⟨qq, hqq⟩ : ∃ qq, qq = w3.heap.size := ⟨_, rfl⟩
            obtain ⟨V, hV⟩ : ∃ V, V = w3.alloc (.cells #[.int .i64 Z.b, .int .i64 Z.c, .int .i64 Z.l, .string Z.h, .string Z.t] 23) := ⟨_, rfl⟩
            rw [← hV] at T5 S5 ⊢
            rw [← hqq] at T5 ⊢
            clear hV hqq hS0 hS1 hS2 hS3 hb1 hb2 hb3 e0 e1 hb8 hgq hne
            obtain ⟨c0, c1, c2, c3, c4⟩ := T5
            obtain ⟨e0, e1, hbV⟩ := S5
            have hS := And.intro c0 (And.intro c1 (And.intro c2 (And.intro c3 (And.intro c4 (And.intro e0 (And.intro e1 hbV))))))
            have hgd := guard_tal
            have heq := fun w => eq_tal Z.b Z.c Z.l Z.h Z.t Z.b Z.c Z.l Z.h Z.t w
            rw [show eqT Z.b Z.c Z.l Z.h Z.t Z.b Z.c Z.l Z.h Z.t = true from decide_eq_true ⟨rfl, rfl, rfl, rfl, rfl⟩] at heq
            clear hbV
            go_wp2_with fail
            go_region_held3 (fun w' => w'.cell? ⟨qq, 0, none⟩ = some (.int .i64 Z.b) ∧ w'.cell? ⟨qq, 1, none⟩ = some (.int .i64 Z.c) ∧ w'.cell? ⟨qq, 2, none⟩ = some (.int .i64 Z.l) ∧ w'.cell? ⟨qq, 3, none⟩ = some (.string Z.h) ∧ w'.cell? ⟨qq, 4, none⟩ = some (.string Z.t) ∧ w'.cell? ⟨w.heap.size, k, none⟩ = some (.string A) ∧ w'.cell? ⟨w.heap.size, j, none⟩ = some (.string B) ∧ Below W0.heap.size W0 w') (first | (with_reducible assumption) | (with_reducible exact pk7 hS (Below.refl _ _).drew) | (with_reducible exact pk7 (by assumption) (by assumption)))
              (first | (go_at_call 11; (with_reducible refine (HOZ.out _).mono ?_); rintro e w' ⟨rfl, hb'⟩) | (go_at_call 12; (with_reducible refine (HRZ.out _).mono ?_); rintro e w' ⟨rfl, hb'⟩) | (go_at_call 12; (with_reducible refine (HRA.out _).mono ?_); rintro e w' ⟨rfl, hb'⟩) | (go_at_call 12; (with_reducible refine (HRB.out _).mono ?_); rintro e w' ⟨rfl, hb'⟩) | (go_at_call 5; (with_reducible refine (HTJ.out _ (pk7_tabs (by assumption) HT0.out)).mono ?_); rintro e w' ⟨rfl, hb'⟩))
            all_goals
              rename_i HH
              have hbN := HH.2.2.2.2.2.2.2
              go_wp2_with fail
              exact ⟨⟨j + 1, by omega, by go_num, hbN⟩, by simp [intOf]; omega⟩
          · have T5 := set5_at (W := w3) (g := w2.heap.size) (b := 0) (c := 0) (l := 0) (h := ⟨#[]⟩) (t := ⟨#[]⟩) ⟨q0, q1, q2, q3, q4⟩ Z
            have S5 := pk2_set hS3 Z hne2 hlt2
            obtain ⟨qq, hqq⟩ : ∃ qq, qq = w2.heap.size := ⟨_, rfl⟩
            obtain ⟨V, hV⟩ : ∃ V, V = set5 w3 w2.heap.size Z := ⟨_, rfl⟩
            rw [← hV] at T5
            unfold set5 at hV
            rw [← hV] at S5 ⊢
            rw [← hqq] at T5 ⊢
            clear hV hqq hS0 hS1 hS2 hS3 hb1 hb2 hb3 e0 e1 hb8 hgq hne q0 q1 q2 q3 q4 s0 s1 s2 s3 s4
            obtain ⟨c0, c1, c2, c3, c4⟩ := T5
            obtain ⟨e0, e1, hbV⟩ := S5
            have hS := And.intro c0 (And.intro c1 (And.intro c2 (And.intro c3 (And.intro c4 (And.intro e0 (And.intro e1 hbV))))))
            have hgd := guard_tal
            have heq := fun w => eq_tal Z.b Z.c Z.l Z.h Z.t Z.b Z.c Z.l Z.h Z.t w
            rw [show eqT Z.b Z.c Z.l Z.h Z.t Z.b Z.c Z.l Z.h Z.t = true from decide_eq_true ⟨rfl, rfl, rfl, rfl, rfl⟩] at heq
            clear hbV
            go_wp2_with fail
            go_region_held3 (fun w' => w'.cell? ⟨qq, 0, none⟩ = some (.int .i64 Z.b) ∧ w'.cell? ⟨qq, 1, none⟩ = some (.int .i64 Z.c) ∧ w'.cell? ⟨qq, 2, none⟩ = some (.int .i64 Z.l) ∧ w'.cell? ⟨qq, 3, none⟩ = some (.string Z.h) ∧ w'.cell? ⟨qq, 4, none⟩ = some (.string Z.t) ∧ w'.cell? ⟨w.heap.size, k, none⟩ = some (.string A) ∧ w'.cell? ⟨w.heap.size, j, none⟩ = some (.string B) ∧ Below W0.heap.size W0 w') (first | (with_reducible assumption) | (with_reducible exact pk7 hS (Below.refl _ _).drew) | (with_reducible exact pk7 (by assumption) (by assumption)))
              (first | (go_at_call 11; (with_reducible refine (HOZ.out _).mono ?_); rintro e w' ⟨rfl, hb'⟩) | (go_at_call 12; (with_reducible refine (HRZ.out _).mono ?_); rintro e w' ⟨rfl, hb'⟩) | (go_at_call 12; (with_reducible refine (HRA.out _).mono ?_); rintro e w' ⟨rfl, hb'⟩) | (go_at_call 12; (with_reducible refine (HRB.out _).mono ?_); rintro e w' ⟨rfl, hb'⟩) | (go_at_call 5; (with_reducible refine (HTJ.out _ (pk7_tabs (by assumption) HT0.out)).mono ?_); rintro e w' ⟨rfl, hb'⟩))
            all_goals
              rename_i HH
              have hbN := HH.2.2.2.2.2.2.2
              go_wp2_with fail
              exact ⟨⟨j + 1, by omega, by go_num, hbN⟩, by simp [intOf]; omega⟩
          · have T5 := set5_at (W := w3) (g := w1.heap.size) (b := 0) (c := 0) (l := 0) (h := ⟨#[]⟩) (t := ⟨#[]⟩) ⟨q0, q1, q2, q3, q4⟩ Z
            have S5 := pk2_set hS3 Z hne1 hlt1
            obtain ⟨qq, hqq⟩ : ∃ qq, qq = w1.heap.size := ⟨_, rfl⟩
            obtain ⟨V, hV⟩ : ∃ V, V = set5 w3 w1.heap.size Z := ⟨_, rfl⟩
            rw [← hV] at T5
            unfold set5 at hV
            rw [← hV] at S5 ⊢
            rw [← hqq] at T5 ⊢
            clear hV hqq hS0 hS1 hS2 hS3 hb1 hb2 hb3 e0 e1 hb8 hgq hne q0 q1 q2 q3 q4 s0 s1 s2 s3 s4
            obtain ⟨c0, c1, c2, c3, c4⟩ := T5
            obtain ⟨e0, e1, hbV⟩ := S5
            have hS := And.intro c0 (And.intro c1 (And.intro c2 (And.intro c3 (And.intro c4 (And.intro e0 (And.intro e1 hbV))))))
            have hgd := guard_tal
            have heq := fun w => eq_tal Z.b Z.c Z.l Z.h Z.t Z.b Z.c Z.l Z.h Z.t w
            rw [show eqT Z.b Z.c Z.l Z.h Z.t Z.b Z.c Z.l Z.h Z.t = true from decide_eq_true ⟨rfl, rfl, rfl, rfl, rfl⟩] at heq
            clear hbV
            go_wp2_with fail
            go_region_held3 (fun w' => w'.cell? ⟨qq, 0, none⟩ = some (.int .i64 Z.b) ∧ w'.cell? ⟨qq, 1, none⟩ = some (.int .i64 Z.c) ∧ w'.cell? ⟨qq, 2, none⟩ = some (.int .i64 Z.l) ∧ w'.cell? ⟨qq, 3, none⟩ = some (.string Z.h) ∧ w'.cell? ⟨qq, 4, none⟩ = some (.string Z.t) ∧ w'.cell? ⟨w.heap.size, k, none⟩ = some (.string A) ∧ w'.cell? ⟨w.heap.size, j, none⟩ = some (.string B) ∧ Below W0.heap.size W0 w') (first | (with_reducible assumption) | (with_reducible exact pk7 hS (Below.refl _ _).drew) | (with_reducible exact pk7 (by assumption) (by assumption)))
              (first | (go_at_call 11; (with_reducible refine (HOZ.out _).mono ?_); rintro e w' ⟨rfl, hb'⟩) | (go_at_call 12; (with_reducible refine (HRZ.out _).mono ?_); rintro e w' ⟨rfl, hb'⟩) | (go_at_call 12; (with_reducible refine (HRA.out _).mono ?_); rintro e w' ⟨rfl, hb'⟩) | (go_at_call 12; (with_reducible refine (HRB.out _).mono ?_); rintro e w' ⟨rfl, hb'⟩) | (go_at_call 5; (with_reducible refine (HTJ.out _ (pk7_tabs (by assumption) HT0.out)).mono ?_); rintro e w' ⟨rfl, hb'⟩))
            all_goals
              rename_i HH
              have hbN := HH.2.2.2.2.2.2.2
              go_wp2_with fail
              exact ⟨⟨j + 1, by omega, by go_num, hbN⟩, by simp [intOf]; omega⟩
          · have T5 := set5_at (W := w3) (g := W8.heap.size) (b := 0) (c := 0) (l := 0) (h := ⟨#[]⟩) (t := ⟨#[]⟩) ⟨q0, q1, q2, q3, q4⟩ Z
            have S5 := pk2_set hS3 Z hne hgq
            obtain ⟨qq, hqq⟩ : ∃ qq, qq = W8.heap.size := ⟨_, rfl⟩
            obtain ⟨V, hV⟩ : ∃ V, V = set5 w3 W8.heap.size Z := ⟨_, rfl⟩
            rw [← hV] at T5
            unfold set5 at hV
            rw [← hV] at S5 ⊢
            rw [← hqq] at T5 ⊢
            clear hV hqq hS0 hS1 hS2 hS3 hb1 hb2 hb3 e0 e1 hb8 hgq hne q0 q1 q2 q3 q4 s0 s1 s2 s3 s4
            obtain ⟨c0, c1, c2, c3, c4⟩ := T5
            obtain ⟨e0, e1, hbV⟩ := S5
            have hS := And.intro c0 (And.intro c1 (And.intro c2 (And.intro c3 (And.intro c4 (And.intro e0 (And.intro e1 hbV))))))
            have hgd := guard_tal
            have heq := fun w => eq_tal Z.b Z.c Z.l Z.h Z.t Z.b Z.c Z.l Z.h Z.t w
            rw [show eqT Z.b Z.c Z.l Z.h Z.t Z.b Z.c Z.l Z.h Z.t = true from decide_eq_true ⟨rfl, rfl, rfl, rfl, rfl⟩] at heq
            clear hbV
            go_wp2_with fail
            go_region_held3 (fun w' => w'.cell? ⟨qq, 0, none⟩ = some (.int .i64 Z.b) ∧ w'.cell? ⟨qq, 1, none⟩ = some (.int .i64 Z.c) ∧ w'.cell? ⟨qq, 2, none⟩ = some (.int .i64 Z.l) ∧ w'.cell? ⟨qq, 3, none⟩ = some (.string Z.h) ∧ w'.cell? ⟨qq, 4, none⟩ = some (.string Z.t) ∧ w'.cell? ⟨w.heap.size, k, none⟩ = some (.string A) ∧ w'.cell? ⟨w.heap.size, j, none⟩ = some (.string B) ∧ Below W0.heap.size W0 w') (first | (with_reducible assumption) | (with_reducible exact pk7 hS (Below.refl _ _).drew) | (with_reducible exact pk7 (by assumption) (by assumption)))
              (first | (go_at_call 11; (with_reducible refine (HOZ.out _).mono ?_); rintro e w' ⟨rfl, hb'⟩) | (go_at_call 12; (with_reducible refine (HRZ.out _).mono ?_); rintro e w' ⟨rfl, hb'⟩) | (go_at_call 12; (with_reducible refine (HRA.out _).mono ?_); rintro e w' ⟨rfl, hb'⟩) | (go_at_call 12; (with_reducible refine (HRB.out _).mono ?_); rintro e w' ⟨rfl, hb'⟩) | (go_at_call 5; (with_reducible refine (HTJ.out _ (pk7_tabs (by assumption) HT0.out)).mono ?_); rintro e w' ⟨rfl, hb'⟩))
            all_goals
              rename_i HH
              have hbN := HH.2.2.2.2.2.2.2
              go_wp2_with fail
              exact ⟨⟨j + 1, by omega, by go_num, hbN⟩, by simp [intOf]; omega⟩
        · obtain rfl : j = 23 := by omega
          go_wp2_with fail
          exact ⟨⟨k + 1, by omega, by go_num, h0⟩, by simp [intOf]; omega⟩
    · obtain rfl : k = 23 := by omega
      have hbZ : Below w.heap.size w wr := hb.trans (h0.mono hb.size)
      obtain ⟨O, hO⟩ : ∃ O, recOf [128] = O := ⟨_, rfl⟩
      have hIO := recOf_is [128]
      have FO := recOf_fit [128] (by decide)
      rw [hO] at hIO FO
      have HRO := Lib.hid (rof_is (s := ⟨#[128]⟩) (by decide) (show IsT (bs ⟨#[128]⟩) O.b O.c O.l O.h O.t from hIO))
      have HTO := Lib.hid (tallyJoins_any 8 2 0 ⟨#[97, 98, 99]⟩ ⟨#[240, 159, 152]⟩ odd_fit O.b O.c O.l O.h O.t FO)
      have HTD := Lib.hid (tallyJoins_any 8 2 0 ⟨#[97, 98, 99]⟩ ⟨#[240, 159, 152]⟩ odd_fit 8 2 0 ⟨#[97, 98, 99]⟩ ⟨#[240, 159, 152]⟩ odd_fit)
      have HFS := Lib.hid (show ∀ i (hi : i < [(⟨8, 2, 0, ⟨#[97, 98, 99]⟩, ⟨#[240, 159, 152]⟩⟩ : Rec), O].length), ([(⟨8, 2, 0, ⟨#[97, 98, 99]⟩, ⟨#[240, 159, 152]⟩⟩ : Rec), O][i]'hi).fit from by
        intro i hi
        simp only [List.length_cons, List.length_nil] at hi
        obtain rfl | rfl : i = 0 ∨ i = 1 := by omega
        · exact odd_fit
        · exact FO)
      have HJB : Hid (∀ W, Tabs W → Calls Tryd.prog 18 #[.agg #[.int .i64 4611686018427387904, .int .i64 4611686018427387904, .int .i64 0, .string ⟨#[97, 98, 99]⟩, .string ⟨#[97, 98, 99]⟩], .agg #[.int .i64 4611686018427387904, .int .i64 4611686018427387904, .int .i64 0, .string ⟨#[97, 98, 99]⟩, .string ⟨#[97, 98, 99]⟩]] W fun r w' => r = .returned (.tuple #[.agg #[.int .i64 0, .int .i64 0, .int .i64 0, .string ⟨#[]⟩, .string ⟨#[]⟩], .int .i64 2]) ∧ Below W.heap.size W w') := Lib.hid (join_rec bigR bigR big_fit big_fit zeroR 2 big_join)
      have HKM : Hid (∀ W, Calls Tryd.prog 13 #[.agg #[.int .i64 (-1), .int .i64 0, .int .i64 0, .string ⟨#[]⟩, .string ⟨#[]⟩]] W fun e w' => e = .returned (.int .i64 30) ∧ Below W.heap.size W w') := Lib.hid (check_any (-1) 0 0 ⟨#[]⟩ ⟨#[]⟩ (by decide) (by decide) (by decide) (by decide) (by decide) 30 (by decide))
      have HKB : Hid (∀ W, Calls Tryd.prog 13 #[.agg #[.int .i64 4611686018427387904, .int .i64 4611686018427387904, .int .i64 0, .string ⟨#[97, 98, 99]⟩, .string ⟨#[97, 98, 99]⟩]] W fun e w' => e = .returned (.int .i64 0) ∧ Below W.heap.size W w') := Lib.hid (check_fit big_fit true big_ok)
      clear hO hIO FO HC h0 hk hk23 hb hlt
      have hS := (show _ from And.intro (BoxAt.new wr 8 2 0 ⟨#[97, 98, 99]⟩ ⟨#[240, 159, 152]⟩) (al hbZ (.cells #[.int .i64 8, .int .i64 2, .int .i64 0, .string ⟨#[97, 98, 99]⟩, .string ⟨#[240, 159, 152]⟩] 23)))
      obtain ⟨⟨c0, c1, c2, c3, c4⟩, hbY⟩ := hS
      have hS := And.intro c0 (And.intro c1 (And.intro c2 (And.intro c3 (And.intro c4 hbY))))
      go_wp2_with fail
      go_region_held3 (fun w' => w'.cell? ⟨wr.heap.size, 0, none⟩ = some (.int .i64 8) ∧ w'.cell? ⟨wr.heap.size, 1, none⟩ = some (.int .i64 2) ∧ w'.cell? ⟨wr.heap.size, 2, none⟩ = some (.int .i64 0) ∧ w'.cell? ⟨wr.heap.size, 3, none⟩ = some (.string ⟨#[97, 98, 99]⟩) ∧ w'.cell? ⟨wr.heap.size, 4, none⟩ = some (.string ⟨#[240, 159, 152]⟩) ∧ Below w.heap.size w w') (first | (with_reducible assumption) | (with_reducible exact box_keep hS (Below.refl _ _).drew) | (with_reducible exact box_keep (by assumption) (by assumption)) | (with_reducible exact box_keep (by assumption) ((Below.refl _ _).alloc (Nat.le_refl _) _)))
        (first | (go_at_call 12; (with_reducible refine (HRO.out _).mono ?_); rintro e w' ⟨rfl, hb'⟩) | (go_at_call 5; (with_reducible refine (HTO.out _ (box_tabs (by assumption) HT.out)).mono ?_); rintro e w' ⟨rfl, hb'⟩) | (go_at_call 5; (with_reducible refine (HTD.out _ (box_tabs (by assumption) HT.out)).mono ?_); rintro e w' ⟨rfl, hb'⟩) | (go_at_call 8; (with_reducible refine (tallySums_any _ 2 2 _ rfl (by decide) HFS.out _ (box_tabs (by assumption) HT.out) (rowT_odd _ O) (fun g o e _ => by cases e; rw [World.size_alloc]; exact Nat.lt_succ_self _)).mono ?_); rintro e w' ⟨rfl, hb'⟩))
      all_goals
        rename_i HH
        have hbN := HH.2.2.2.2.2
        have B9 := BoxAt.new w' 4611686018427387904 4611686018427387904 0 ⟨#[97, 98, 99]⟩ ⟨#[97, 98, 99]⟩
        have HB9 := Lib.hid B9
        have hb9 := al hbN (.cells #[.int .i64 4611686018427387904, .int .i64 4611686018427387904, .int .i64 0, .string ⟨#[97, 98, 99]⟩, .string ⟨#[97, 98, 99]⟩] 23)
        obtain ⟨g0, g1, g2, g3, g4⟩ := B9
        clear HH hb' hS c0 c1 c2 c3 c4 hbY HRO HTO HTD HFS
        go_wp2_with (first | (go_at_call 18; (with_reducible refine (HJB.out _ (HT.out.below hb9 (Nat.le_refl _))).mono ?_); rintro r w1 ⟨rfl, hb1⟩; have HB1 := Lib.hid (HB9.out.keep hb1); have hbb1 := nx hb9 hb1) | (go_at_call 13; (with_reducible refine (HKM.out _).mono ?_); rintro e w2 ⟨rfl, hb2⟩; have B2 := (HB1.out.keep ((Below.refl _ _).alloc (Nat.le_refl _) _)).keep hb2; obtain ⟨i0, i1, i2, i3, i4⟩ := B2; have hbb2 := nx (al hbb1 _) hb2) | (go_at_call 13; (with_reducible refine (HKB.out _).mono ?_); rintro e w3 ⟨rfl, hb3⟩; have hbb3 := nx hbb2 hb3) | (go_at_call 14; (with_reducible refine (works_any _ (HT.out.below hbb3 (Nat.le_refl _))).mono ?_); rintro e w4 ⟨rfl, hb4⟩))
        go_ret
        exact ⟨rfl, nx hbb3 hb4⟩
end Go.Proofs.YtpihmbdfhhjleaaDoor

