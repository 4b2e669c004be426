/-
  The walk of CursorsFollow: a cursor stays with its text.
-/
import Derived.Test.YtfoppbignompkaaDoorCurFollowLaw
import Derived.Test.YtfoppbignompkaaDoorCurWords
namespace Go.Proofs.YtfoppbignompkaaDoor
open Go.RowKit

theorem inside_is (i : Int) (n : Nat) (hn : n ≤ 140737488351232) : ∃ p : Nat, p ≤ n ∧ ∀ w, Calls Tryd.prog 22 #[.int .i64 i, .int .i64 (n : Nat)] w fun e w' => e = .returned (.int .i64 (p : Nat)) ∧ w = w' := by
  obtain ⟨r, hr⟩ : ∃ r, i.tmod ((n : Int) + 1) = r := ⟨_, rfl⟩
  have h1 : r ≤ (n : Int) := by
    have := Int.tmod_lt_of_pos i (show (0 : Int) < (n : Int) + 1 by omega)
    omega
  have h2 : -(n : Int) ≤ r := by
    have h := Int.lt_tmod_of_pos i (show (0 : Int) < (n : Int) + 1 by omega)
    omega
  by_cases h0 : r < 0
  · obtain ⟨p, hp⟩ : ∃ p : Nat, r + (n : Int) + 1 = (p : Int) := ⟨(r + n + 1).toNat, by omega⟩
    refine ⟨p, by omega, fun w => ?_⟩
    go_enter Tryd.func22, Tryd.ntmps22
    go_wp2_with fail
    go_ret
    exact ⟨rfl, rfl⟩
  · obtain ⟨p, rfl⟩ : ∃ p : Nat, r = (p : Int) := ⟨r.toNat, by omega⟩
    refine ⟨p, by omega, fun w => ?_⟩
    go_enter Tryd.func22, Tryd.ntmps22
    go_wp2_with fail
    go_ret
    exact ⟨rfl, rfl⟩
theorem f3_keep {W0 W W' : World} {g1 i1 g2 i2 g3 i3 : Nat} {v1 v2 v3 : Value} (H : W.cell? ⟨g1, i1, none⟩ = some v1 ∧ W.cell? ⟨g2, i2, none⟩ = some v2 ∧ W.cell? ⟨g3, i3, none⟩ = some v3 ∧ Below W0.heap.size W0 W) (hb : Below W.heap.size W W') :
    W'.cell? ⟨g1, i1, none⟩ = some v1 ∧ W'.cell? ⟨g2, i2, none⟩ = some v2 ∧ W'.cell? ⟨g3, i3, none⟩ = some v3 ∧ Below W0.heap.size W0 W' := ⟨cellKeep H.1 hb, cellKeep H.2.1 hb, cellKeep H.2.2.1 hb, nx H.2.2.2 hb⟩
theorem f2_keep {W0 W W' : World} {g1 i1 g2 i2 : Nat} {v1 v2 : Value} (H : W.cell? ⟨g1, i1, none⟩ = some v1 ∧ W.cell? ⟨g2, i2, none⟩ = some v2 ∧ Below W0.heap.size W0 W) (hb : Below W.heap.size W W') :
    W'.cell? ⟨g1, i1, none⟩ = some v1 ∧ W'.cell? ⟨g2, i2, none⟩ = some v2 ∧ Below W0.heap.size W0 W' := ⟨cellKeep H.1 hb, cellKeep H.2.1 hb, nx H.2.2 hb⟩
theorem one_wrong (p e : Nat) : wrongN [((3 : Int), (p : Int), (e : Int), (9 : Int))] = 0 := by
  refine wrongN_ok (by simp) (fun k hk => ?_)
  obtain rfl : k = 0 := by simpa using hk
  show (decide ((p : Int) < 0 ∨ (e : Int) < 0 ∨ (9 : Int) < 0) || (decide (0 < 0) && _)) = false
  rw [decide_eq_false (by omega), decide_eq_false (by omega)]
  rfl
theorem follow_shift (p e A O I n : Nat) (hAO : A + O ≤ n) (hp : p ≤ n) (he : e ≤ n) (hn : n ≤ 140737488351232) (hI : I ≤ 140737488351232) (q1 q2 : Nat) (h1 : qN p A O I = q1) (h2 : qN e A O I = q2) (w : World) (H : Nat) (hR : ReadsC w (some ⟨H, 0, none⟩) [((3 : Int), (p : Int), (e : Int), (9 : Int))]) :
    Calls Tryd.prog 14 #[.slice (some ⟨H, 0, none⟩) 1 1, .agg #[.int .i64 (A : Nat), .int .i64 (O : Nat), .int .i64 (I : Nat)]] w fun r w' =>
      ∃ g cap, r = .returned (.tuple #[.slice (some ⟨g, 0, none⟩) 1 cap, .int .i64 0]) ∧ (w'.cell? ⟨g, 0, none⟩ = some (.int .u32 3) ∧ w'.cell? ⟨g, 1, none⟩ = some (.int .i64 (q1 : Nat)) ∧ w'.cell? ⟨g, 2, none⟩ = some (.int .i64 (q2 : Nat)) ∧ w'.cell? ⟨g, 3, none⟩ = some (.int .i64 9)) ∧ Below w.heap.size w w' := by
  have hz : IntsC [((3 : Int), (p : Int), (e : Int), (9 : Int))] := by
    intro k hk
    obtain rfl : k = 0 := by simpa using hk
    show (p : Int) ≤ _ ∧ (e : Int) ≤ _ ∧ (9 : Int) ≤ _
    omega
  have hg1 := goesV_q p A O I (by omega)
  have hg2 := goesV_q e A O I (by omega)
  rw [h1] at hg1
  rw [h2] at hg2
  have hV : shiftV [((3 : Int), (p : Int), (e : Int), (9 : Int))] (A : Nat) (O : Nat) (I : Nat) = (0, [((3 : Int), (q1 : Int), (q2 : Int), (9 : Int))]) := by
    unfold shiftV
    rw [if_neg (by rw [one_wrong]; simp), if_neg (by omega), if_pos]
    · simp only [List.map_cons, List.map_nil, shC, hg1, hg2]
    · simp only [List.all_cons, List.all_nil, okC, hg1, hg2]
      rfl
  refine (shift_ok (some ⟨H, 0, none⟩) 1 [((3 : Int), (p : Int), (e : Int), (9 : Int))] 1 rfl (fun h => by cases h) (A : Nat) (O : Nat) (I : Nat) (by omega) (by omega) (by omega) (by omega) (by omega) (one_wrong p e) hz _ hR).mono ?_
  rintro r w' ⟨v, rfl, ho, hb⟩
  rw [hV] at ho ⊢
  have ho : w'.ownsRow _ 36 4 v 1 [.int .u32 3, .int .i64 (q1 : Nat), .int .i64 (q2 : Nat), .int .i64 9] := ho
  obtain ⟨g, cap, rfl, _, hgl⟩ := (HRow.of_own ho).form1 (by decide)
  exact ⟨g, cap, rfl, ⟨ho.cellAt 0 (by decide), ho.cellAt 1 (by decide), ho.cellAt 2 (by decide), ho.cellAt 3 (by decide)⟩, hb⟩
theorem follow_check (g cap q1 q2 n : Nat) (h1 : q1 ≤ n) (h2 : q2 ≤ n) (w : World) (x0 : w.cell? ⟨g, 0, none⟩ = some (.int .u32 3)) (x1 : w.cell? ⟨g, 1, none⟩ = some (.int .i64 (q1 : Nat))) (x2 : w.cell? ⟨g, 2, none⟩ = some (.int .i64 (q2 : Nat))) (x3 : w.cell? ⟨g, 3, none⟩ = some (.int .i64 9)) :
    Calls Tryd.prog 28 #[.slice (some ⟨g, 0, none⟩) 1 cap, .int .i64 (n : Nat)] w fun e w' => e = .returned (.int .i64 0) ∧ Below w.heap.size w w' := by
  have hR : ReadsC w (some ⟨g, 0, none⟩) [((3 : Int), (q1 : Int), (q2 : Int), (9 : Int))] := by
    refine .inr ⟨g, 0, rfl, fun j hj => ?_⟩
    obtain rfl : j = 0 := by simpa using hj
    exact ⟨x0, x1, x2, x3⟩
  refine (check_any (some ⟨g, 0, none⟩) cap [((3 : Int), (q1 : Int), (q2 : Int), (9 : Int))] 1 rfl (by decide) (n : Nat) w hR).mono ?_
  rintro e w' ⟨rfl, hb⟩
  refine ⟨?_, hb⟩
  have : checkN [((3 : Int), (q1 : Int), (q2 : Int), (9 : Int))] (n : Nat) = 0 := by
    unfold checkN
    rw [if_neg (by omega), if_neg (by rw [one_wrong]; simp), if_neg]
    simp only [List.any_cons, List.any_nil, farC, Bool.or_false, decide_eq_true_eq]
    omega
  rw [this]

/-- the struct Change as a value -/
abbrev changeV (t : ByteArray) (A O : Int) (i : ByteArray) (P E : Int) : Value := .agg #[.string t, .int .i64 A, .int .i64 O, .string i, .int .i64 P, .int .i64 E]

set_option maxRecDepth 100000 in
set_option maxHeartbeats 8000000 in
theorem cursorsFollow_any (t i : ByteArray) (ht : t.size ≤ 140737488351232) (hi : i.size ≤ 140737488351232) (A0 O0 P0 E0 : Int) (w : World) (hT : Tabs w) :
    Calls Tryd.prog 8 #[changeV t A0 O0 i P0 E0] w fun e w' => e = .returned (.bool true) ∧ Below w.heap.size w w' := by
  have HT := Lib.hid hT
  have HAW := Lib.hid (fun w hT => cawake_any w hT)
  have K0 := Blk.new w 59 [.string t, .int .i64 A0, .int .i64 O0, .string i, .int .i64 P0, .int .i64 E0]
  have hb0 : Below w.heap.size w _ := al (Below.refl _ _) (.cells #[.string t, .int .i64 A0, .int .i64 O0, .string i, .int .i64 P0, .int .i64 E0] 59)
  obtain ⟨W, hW⟩ : ∃ W, w.alloc (.cells #[.string t, .int .i64 A0, .int .i64 O0, .string i, .int .i64 P0, .int .i64 E0] 59) = W := ⟨_, rfl⟩
  replace K0 : Blk W w.heap.size 59 [.string t, .int .i64 A0, .int .i64 O0, .string i, .int .i64 P0, .int .i64 E0] := hW ▸ K0
  replace hb0 : Below w.heap.size w W := hW ▸ hb0
  clear hT
  go_enter Tryd.func8, Tryd.ntmps8
  go_wp2_with (first
    | (go_at_call 19; (with_reducible refine (HAW.out _ (HT.out.below hb0 (Nat.le_refl _))).mono ?_); rintro e w1 ⟨rfl, hb1⟩; have K1 := K0.below hb1; have a0 := K1.cell 0 rfl; have a1 := K1.cell 1 rfl; have a2 := K1.cell 2 rfl; have a3 := K1.cell 3 rfl; have a4 := K1.cell 4 rfl; have a5 := K1.cell 5 rfl))
  have hbw := nx hb0 hb1
  clear HAW hb0 K0 hW
  (with_reducible refine (inside_any A0 t.size ht _).mono ?_)
  rintro e w2 ⟨A, hA, rfl, rfl⟩
  obtain ⟨r, hr⟩ : ∃ r, t.size - A = r := ⟨_, rfl⟩
  have hri : (t.size : Int) - (A : Int) = (r : Int) := by omega
  have hrb : r ≤ 140737488351232 := by omega
  go_wp2_with fail
  (with_reducible refine (inside_any O0 r hrb _).mono ?_)
  rintro e w2 ⟨O, hO, rfl, rfl⟩
  have hAOt : A + O ≤ t.size := by omega
  obtain ⟨AO, hAO⟩ : ∃ AO, A + O = AO := ⟨_, rfl⟩
  have hAOi : (A : Int) + (O : Int) = (AO : Int) := by omega
  have hAOs : AO ≤ t.size := by omega
  have hNz := now_size t i A O hAOt
  have hNA := now_ahead t i A O
  have hNB := now_behind t i A O
  obtain ⟨N, hN⟩ : ∃ N, nowS t i A O = N := ⟨_, rfl⟩
  have hN0 : t.extract 0 A ++ i ++ t.extract AO t.size = N := by rw [← hN, ← hAO]; rfl
  rw [hN] at hNz hNA hNB
  have HNA := Lib.hid hNA
  have HNB := Lib.hid hNB
  obtain ⟨T1, hT1⟩ : ∃ T, t.extract 0 A = T := ⟨_, rfl⟩
  obtain ⟨T2, hT2⟩ : ∃ T, t.extract AO t.size = T := ⟨_, rfl⟩
  have hs1 : T1.size ≤ 140737488351232 := by rw [← hT1, ByteArray.size_extract]; omega
  have hs2 : T2.size ≤ 140737488351232 := by rw [← hT2, ByteArray.size_extract]; omega
  rw [hT1, hT2] at hN0
  obtain ⟨X1, hX1⟩ : ∃ X, T1 ++ i = X := ⟨_, rfl⟩
  have hs3 : X1.size ≤ 281474976702464 := by rw [← hX1, ByteArray.size_append]; omega
  rw [hX1] at hN0
  have hNs : N.size ≤ 422212465053696 := by omega
  have HNZ := Lib.hid hNz
  have hd0 : (0 : Int) ≤ (A : Int) := by omega
  have hd1 : (A : Int) ≤ (t.size : Int) := by omega
  have hd2 : (AO : Int) ≤ (t.size : Int) := by omega
  clear hr hri hrb hO hNA hNB hN hNz
  go_wp2_with fail
  go_quiet (fail)
  have hbY : Below w.heap.size w (w1.drewN nq) := below_drewN' hbw nq
  have KY : Blk (w1.drewN nq) w.heap.size 59 [.string t, .int .i64 A0, .int .i64 O0, .string i, .int .i64 P0, .int .i64 E0] := K1
  obtain ⟨Y, hY⟩ : ∃ Y, w1.drewN nq = Y := ⟨_, rfl⟩
  rw [hY] at hbY KY ⊢
  clear hY hT1 hT2 hX1 hN0 hs1 hs2 hs3 a0 a1 a2 a3 a4 a5 K1 hb1 hbw
  obtain ⟨p, hp, hIp⟩ := inside_is P0 t.size ht
  obtain ⟨e2, he2, hIe⟩ := inside_is E0 t.size ht
  have HIP := Lib.hid hIp
  have HIE := Lib.hid hIe
  have hS : Y.cell? ⟨w.heap.size, 0, none⟩ = some (.string t) ∧ Y.cell? ⟨w.heap.size, 4, none⟩ = some (.int .i64 P0) ∧ Y.cell? ⟨w.heap.size, 5, none⟩ = some (.int .i64 E0) ∧ Below w.heap.size w Y := ⟨KY.cell 0 rfl, KY.cell 4 rfl, KY.cell 5 rfl, hbY⟩
  clear hIp hIe
  go_wp2_with fail
  go_region_held_law (fun w' => w'.cell? ⟨w.heap.size, 0, none⟩ = some (.string t) ∧ w'.cell? ⟨w.heap.size, 4, none⟩ = some (.int .i64 P0) ∧ w'.cell? ⟨w.heap.size, 5, none⟩ = some (.int .i64 E0) ∧ Below w.heap.size w w') (first | (with_reducible assumption) | (with_reducible exact f3_keep hS (Below.refl _ _).drew) | (with_reducible exact f3_keep hS (((Below.refl _ _).alloc (Nat.le_refl _) _).drew)) | (with_reducible exact f3_keep (by assumption) ((Below.refl _ _).alloc (Nat.le_refl _) _)) | (with_reducible exact f3_keep (by assumption) (by assumption)))
    (first
      | (go_at_call 22; (with_reducible refine (HIP.out _).mono ?_); rintro e w2 ⟨rfl, rfl⟩)
      | (go_at_call 22; (with_reducible refine (HIE.out _).mono ?_); rintro e w2 ⟨rfl, rfl⟩))
  have PV : Blk (Y.alloc (.cells #[.int .i64 (p : Nat), .int .i64 (e2 : Nat)] 3)).drew Y.heap.size 3 [.int .i64 (p : Nat), .int .i64 (e2 : Nat)] := Blk.new Y 3 [.int .i64 (p : Nat), .int .i64 (e2 : Nat)]
  have KV : Blk (Y.alloc (.cells #[.int .i64 (p : Nat), .int .i64 (e2 : Nat)] 3)).drew w.heap.size 59 [.string t, .int .i64 A0, .int .i64 O0, .string i, .int .i64 P0, .int .i64 E0] := KY.alloc _
  have hbV : Below w.heap.size w (Y.alloc (.cells #[.int .i64 (p : Nat), .int .i64 (e2 : Nat)] 3)).drew := (al hbY _).drew
  obtain ⟨V, hV⟩ : ∃ V, (Y.alloc (.cells #[.int .i64 (p : Nat), .int .i64 (e2 : Nat)] 3)).drew = V := ⟨_, rfl⟩
  obtain ⟨pb, hpb⟩ : ∃ pb, Y.heap.size = pb := ⟨_, rfl⟩
  rw [hV, hpb] at PV
  rw [hV] at KV hbV ⊢
  rw [hpb]
  obtain ⟨q1, hq1⟩ : ∃ q, qN p A O i.size = q := ⟨_, rfl⟩
  obtain ⟨q2, hq2⟩ : ∃ q, qN e2 A O i.size = q := ⟨_, rfl⟩
  have hl1 : q1 ≤ N.size := by rw [← hq1, HNZ.out]; exact qN_le hAOt hp
  have hl2 : q2 ≤ N.size := by rw [← hq2, HNZ.out]; exact qN_le hAOt he2
  have HSH := Lib.hid (fun w H hR => follow_shift p e2 A O i.size t.size hAOt hp he2 ht hi q1 q2 hq1 hq2 w H hR)
  have HCK := Lib.hid (fun g cap w x0 x1 x2 x3 => follow_check g cap q1 q2 N.size hl1 hl2 w x0 x1 x2 x3)
  have HQ : Hid (∀ k, k < 2 → ∃ P Q : Nat, ([.int .i64 (p : Nat), .int .i64 (e2 : Nat)] : List Value)[k]? = some (.int .i64 (P : Nat)) ∧ ([.int .i64 (q1 : Nat), .int .i64 (q2 : Nat)] : List Value)[k]? = some (.int .i64 (Q : Nat)) ∧ P ≤ t.size ∧ qN P A O i.size = Q ∧ Q ≤ N.size) := Lib.hid fun k hk => by
    match k, hk with
    | 0, _ => exact ⟨p, q1, rfl, rfl, hp, hq1, hl1⟩
    | 1, _ => exact ⟨e2, q2, rfl, rfl, he2, hq2, hl2⟩
  have HRV : Hid (ReadsC (V.alloc (.cells #[.int .u32 3, .int .i64 (p : Nat), .int .i64 (e2 : Nat), .int .i64 9] 36)) (some ⟨V.heap.size, 0, none⟩) [((3 : Int), (p : Int), (e2 : Int), (9 : Int))]) := Lib.hid (readsC_new V ((3 : Int), (p : Int), (e2 : Int), (9 : Int)))
  have hS7 : V.cell? ⟨pb, 0, none⟩ = some (.int .i64 (p : Nat)) ∧ V.cell? ⟨pb, 1, none⟩ = some (.int .i64 (e2 : Nat)) ∧ V.cell? ⟨w.heap.size, 3, none⟩ = some (.string i) ∧ Below w.heap.size w V := ⟨PV.cell 0 rfl, PV.cell 1 rfl, KV.cell 3 rfl, hbV⟩
  clear hq1 hq2 hl1 hl2 hV hpb hS KY hbY hp he2
  have PVH := Lib.hid PV
  have KVH := Lib.hid KV
  clear PV KV
  go_wp2_with fail
  go_region_held_law (fun w' => w'.cell? ⟨pb, 0, none⟩ = some (.int .i64 (p : Nat)) ∧ w'.cell? ⟨pb, 1, none⟩ = some (.int .i64 (e2 : Nat)) ∧ w'.cell? ⟨w.heap.size, 3, none⟩ = some (.string i) ∧ Below w.heap.size w w') (first | (with_reducible assumption) | (with_reducible exact f3_keep hS7 (Below.refl _ _).drew) | (with_reducible exact f3_keep hS7 (((Below.refl _ _).alloc (Nat.le_refl _) _).drew)) | (with_reducible exact f3_keep hS7 hV3) | (with_reducible exact f3_keep (by assumption) ((Below.refl _ _).alloc (Nat.le_refl _) _)))
    (first
      | (go_at_call 14; (with_reducible refine (HSH.out _ _ (HRV.out.below (Below.refl _ _).drew)).mono ?_); rintro e w3 ⟨g3, c3, rfl, ⟨x0, x1, x2, x3⟩, hb3⟩; have hV3 : Below V.heap.size V w3 := nx (((Below.refl V.heap.size V).alloc (Nat.le_refl _) _).drew) hb3))
  have P3 := PVH.out.below hV3
  have K3 := KVH.out.below hV3
  have hbC := nx hbV hV3
  clear hV3 hb3 hS7
  go_wp2_with (first
    | (go_at_call 28; (with_reducible refine (HCK.out _ _ _ x0 x1 x2 x3).mono ?_); rintro e w4 ⟨rfl, hb4⟩; have y1 := cellKeep x1 hb4; have y2 := cellKeep x2 hb4; have P4 := P3.below hb4; have K4 := K3.below hb4; have hbD := nx hbC hb4))
  have hS9 : w4.cell? ⟨g3, 1, none⟩ = some (.int .i64 (q1 : Nat)) ∧ w4.cell? ⟨g3, 2, none⟩ = some (.int .i64 (q2 : Nat)) ∧ Below w.heap.size w w4 := ⟨y1, y2, hbD⟩
  have PVH4 := Lib.hid P4
  have KVH4 := Lib.hid K4
  clear P4 K4 x0 x1 x2 x3 y1 y2
  go_region_held_law (fun w' => w'.cell? ⟨g3, 1, none⟩ = some (.int .i64 (q1 : Nat)) ∧ w'.cell? ⟨g3, 2, none⟩ = some (.int .i64 (q2 : Nat)) ∧ Below w.heap.size w w') (first | (with_reducible assumption) | (with_reducible exact f2_keep hS9 (Below.refl _ _).drew) | (with_reducible exact f2_keep hS9 (((Below.refl _ _).alloc (Nat.le_refl _) _).drew)) | (with_reducible exact f2_keep (by assumption) ((Below.refl _ _).alloc (Nat.le_refl _) _))) (fail)
  have Q5 : Blk (w4.alloc (.cells #[.int .i64 (q1 : Nat), .int .i64 (q2 : Nat)] 3)).drew w4.heap.size 3 [.int .i64 (q1 : Nat), .int .i64 (q2 : Nat)] := Blk.new w4 3 [.int .i64 (q1 : Nat), .int .i64 (q2 : Nat)]
  have P5 : Blk (w4.alloc (.cells #[.int .i64 (q1 : Nat), .int .i64 (q2 : Nat)] 3)).drew pb 3 [.int .i64 (p : Nat), .int .i64 (e2 : Nat)] := PVH4.out.alloc _
  have K5 : Blk (w4.alloc (.cells #[.int .i64 (q1 : Nat), .int .i64 (q2 : Nat)] 3)).drew w.heap.size 59 [.string t, .int .i64 A0, .int .i64 O0, .string i, .int .i64 P0, .int .i64 E0] := KVH4.out.alloc _
  have hb5 : Below w.heap.size w (w4.alloc (.cells #[.int .i64 (q1 : Nat), .int .i64 (q2 : Nat)] 3)).drew := (al hbD _).drew
  obtain ⟨V5, hV5⟩ : ∃ V, (w4.alloc (.cells #[.int .i64 (q1 : Nat), .int .i64 (q2 : Nat)] 3)).drew = V := ⟨_, rfl⟩
  obtain ⟨qb, hqb⟩ : ∃ pb, w4.heap.size = pb := ⟨_, rfl⟩
  rw [hV5, hqb] at Q5
  rw [hV5] at P5 K5 hb5 ⊢
  rw [hqb]
  clear hV5 hqb hS9 PVH4 KVH4 hbD hbC hb4 hbV HSH HCK HRV HIP HIE PVH KVH K3 P3
  go_wp2_with fail
  go_loopw [10] (fun i wr => ∃ k : Nat, i = .int .i64 (k : Nat) ∧ k ≤ 2 ∧ Below V5.heap.size V5 wr) (fun i _ => 2 - (intOf i).toNat)
  case atStart => exact ⟨0, rfl, by omega, Below.refl _ _⟩
  case round =>
    obtain ⟨k, rfl, hk, hb⟩ := hrel
    by_cases hlt : k < 2
    · obtain ⟨P, Q, hP, hQ, hPs, hPQ, hQs⟩ := HQ.out k hlt
      have x0 := cellKeep (P5.cell k hP) hb
      have x1 := cellKeep (Q5.cell k hQ) hb
      have x2 := cellKeep (K5.cell 0 rfl) hb
      have x3 := cellKeep (K5.cell 3 rfl) hb
      have hki : (k : Int) < 2 := by omega
      have hk0 : (0 : Int) ≤ (k : Int) := by omega
      have hQ0 : (0 : Int) ≤ (Q : Int) := by omega
      have hQi : (Q : Int) ≤ (N.size : Int) := by omega
      have hQd : decide (N.size < Q) = false := decide_eq_false (by omega)
      have hP0 : (0 : Int) ≤ (P : Int) := by omega
      have hPi : (P : Int) ≤ (t.size : Int) := by omega
      clear hP hQ
      go_wp2_with fail
      go_quiet (fail)
      have hbU := below_drewN' hb nq
      have x2 : (wr.drewN nq).cell? ⟨w.heap.size, 0, none⟩ = some (.string t) := x2
      have x3 : (wr.drewN nq).cell? ⟨w.heap.size, 3, none⟩ = some (.string i) := x3
      obtain ⟨U, hU⟩ : ∃ U, wr.drewN nq = U := ⟨_, rfl⟩
      rw [hU] at hbU x2 x3 ⊢
      clear hU hb x0 x1
      by_cases h1 : P < A
      · obtain rfl : Q = P := by rw [← hPQ, qN_1 h1]
        have h1i : (Q : Int) < (A : Int) := by omega
        have h1d : decide (Q < A) = true := decide_eq_true h1
        have h2d : decide (AO < Q) = false := decide_eq_false (by omega)
        have h3d : decide (A ≤ Q) = false := decide_eq_false (by omega)
        have hXN := HNA.out Q hAOt h1
        obtain ⟨X, hX⟩ : ∃ X, t.extract 0 Q = X := ⟨_, rfl⟩
        rw [hX] at hXN
        clear hPQ
        go_wp2_with fail
        go_quiet (fail)
        have hbU := below_drewN' hbU nq
        have x2 : (U.drewN nq).cell? ⟨w.heap.size, 0, none⟩ = some (.string t) := x2
        have x3 : (U.drewN nq).cell? ⟨w.heap.size, 3, none⟩ = some (.string i) := x3
        obtain ⟨U', hU'⟩ : ∃ U', U.drewN nq = U' := ⟨_, rfl⟩
        rw [hU'] at hbU x2 x3 ⊢
        clear hU'
        go_wp2_with fail
        go_quiet (fail)
        have hbU := below_drewN' hbU nq
        have x2 : (U'.drewN nq).cell? ⟨w.heap.size, 0, none⟩ = some (.string t) := x2
        have x3 : (U'.drewN nq).cell? ⟨w.heap.size, 3, none⟩ = some (.string i) := x3
        obtain ⟨U2, hU2⟩ : ∃ U2, U'.drewN nq = U2 := ⟨_, rfl⟩
        rw [hU2] at hbU x2 x3 ⊢
        clear hU2
        go_wp2_with fail
        exact ⟨⟨k + 1, by go_num, by omega, hbU⟩, by simp [intOf]; omega⟩
      · by_cases h2 : AO < P
        · have hPQ2 : P - O + i.size = Q := by rw [← hPQ, qN_2 (by omega)]
          have h1d : decide (P < A) = false := decide_eq_false h1
          have h2d : decide (AO < P) = true := decide_eq_true h2
          have h2i : (AO : Int) < (P : Int) := by omega
          have h3d : decide (A ≤ P) = true := decide_eq_true (by omega)
          have h3i : (A : Int) ≤ (P : Int) := by omega
          have h4d : decide (P ≤ AO) = false := decide_eq_false (by omega)
          have hXN := HNB.out P hAOt (by omega) hPs
          rw [hPQ2] at hXN
          obtain ⟨X, hX⟩ : ∃ X, t.extract P t.size = X := ⟨_, rfl⟩
          rw [hX] at hXN
          clear hPQ hPQ2
          go_wp2_with fail
          go_quiet (fail)
          have hbU := below_drewN' hbU nq
          have x2 : (U.drewN nq).cell? ⟨w.heap.size, 0, none⟩ = some (.string t) := x2
          have x3 : (U.drewN nq).cell? ⟨w.heap.size, 3, none⟩ = some (.string i) := x3
          obtain ⟨U', hU'⟩ : ∃ U', U.drewN nq = U' := ⟨_, rfl⟩
          rw [hU'] at hbU x2 x3 ⊢
          clear hU'
          go_wp2_with fail
          go_quiet (fail)
          have hbU := below_drewN' hbU nq
          have x2 : (U'.drewN nq).cell? ⟨w.heap.size, 0, none⟩ = some (.string t) := x2
          have x3 : (U'.drewN nq).cell? ⟨w.heap.size, 3, none⟩ = some (.string i) := x3
          obtain ⟨U2, hU2⟩ : ∃ U2, U'.drewN nq = U2 := ⟨_, rfl⟩
          rw [hU2] at hbU x2 x3 ⊢
          clear hU2
          go_wp2_with fail
          exact ⟨⟨k + 1, by go_num, by omega, hbU⟩, by simp [intOf]; omega⟩
        · have hPQ3 : A + i.size = Q := by rw [← hPQ, qN_3 (by omega) (by omega)]
          have h1d : decide (P < A) = false := decide_eq_false h1
          have h2d : decide (AO < P) = false := decide_eq_false h2
          have h3d : decide (A ≤ P) = true := decide_eq_true (by omega)
          have h3i : (A : Int) ≤ (P : Int) := by omega
          have h4d : decide (P ≤ AO) = true := decide_eq_true (by omega)
          have h4i : (P : Int) ≤ (AO : Int) := by omega
          have h5i : (A : Int) + (i.size : Int) = (Q : Int) := by omega
          clear hPQ hPQ3
          go_wp2_with fail
          go_quiet (fail)
          have hbU := below_drewN' hbU nq
          have x2 : (U.drewN nq).cell? ⟨w.heap.size, 0, none⟩ = some (.string t) := x2
          have x3 : (U.drewN nq).cell? ⟨w.heap.size, 3, none⟩ = some (.string i) := x3
          obtain ⟨U', hU'⟩ : ∃ U', U.drewN nq = U' := ⟨_, rfl⟩
          rw [hU'] at hbU x2 x3 ⊢
          clear hU'
          go_wp2_with fail
          go_quiet (fail)
          have hbU := below_drewN' hbU nq
          have x2 : (U'.drewN nq).cell? ⟨w.heap.size, 0, none⟩ = some (.string t) := x2
          have x3 : (U'.drewN nq).cell? ⟨w.heap.size, 3, none⟩ = some (.string i) := x3
          obtain ⟨U2, hU2⟩ : ∃ U2, U'.drewN nq = U2 := ⟨_, rfl⟩
          rw [hU2] at hbU x2 x3 ⊢
          clear hU2
          go_wp2_with fail
          exact ⟨⟨k + 1, by go_num, by omega, hbU⟩, by simp [intOf]; omega⟩
    · obtain rfl : k = 2 := by omega
      rw [show ((2 : Nat) : Int) = 2 from rfl]
      go_wp2_with fail
      go_ret
      exact ⟨rfl, hb5.trans (hb.mono hb5.size)⟩
end Go.Proofs.YtfoppbignompkaaDoor
