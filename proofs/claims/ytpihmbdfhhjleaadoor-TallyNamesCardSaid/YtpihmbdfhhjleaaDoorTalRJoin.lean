/-
  The contract of the document's Join.
-/
import Derived.Test.YtpihmbdfhhjleaaDoorTalRSeam
namespace Go.Proofs.YtpihmbdfhhjleaaDoor
open Go.RowKit

set_option maxHeartbeats 2000000 in
theorem rjoin_no (b c l : Int) (h t : ByteArray) (b' c' l' : Int) (h' t' : ByteArray) (F : Fit b c l h t) (F' : Fit b' c' l' h' t') (hn : (okB b c l (bs h) (bs t) && okB b' c' l' (bs h') (bs t')) = false)
    (w : World) :
    Calls Tryd.prog 19 #[.agg #[.int .i64 b, .int .i64 c, .int .i64 l, .string h, .string t], .agg #[.int .i64 b', .int .i64 c', .int .i64 l', .string h', .string t']] w fun e w' =>
      e = .returned (.tuple #[zeroV, .int .i64 30]) ∧ Below w.heap.size w w' := by
  have HS := Lib.hid (RSeam_any b c l h t b' c' l' h' t' F F' _ _ rfl rfl _ _ rfl rfl)
  rw [hn, if_neg (by decide)] at HS
  clear hn
  obtain ⟨X1, X2, X3, hb⟩ := three_new w b c l h t b' c' l' h' t'
  have X1 := Lib.hid X1
  have X2 := Lib.hid X2
  have X3 := Lib.hid X3
  go_enter Tryd.func19, Tryd.ntmps19
  go_wp2_with fail
  (with_reducible refine (HS.out _).mono ?_)
  rintro e w1 ⟨rfl, hb1⟩
  have hb := nx hb hb1
  have X1 := Lib.hid (X1.out.keep hb1)
  have X2 := Lib.hid (X2.out.keep hb1)
  have X3 := Lib.hid (X3.out.keep hb1)
  clear hb1
  obtain ⟨hr, hz, _⟩ := X3.out
  have r0 := hr 0
  have r1 := hr 1
  have r2 := hr 2
  have r3 := hr 3
  have r4 := hr 4
  have z0 := hz 0
  have z1 := hz 1
  have z2 := hz 2
  have z3 := hz 3
  have z4 := hz 4
  clear hr hz
  simp only [List.getElem?_toArray, List.getElem?_cons_zero, List.getElem?_cons_succ] at r0 r1 r2 r3 r4
  go_wp2_with fail
  refine bodyPost_ret (v := .tuple #[zeroV, .int .i64 30]) (by simp [results, Tryd.results19, zeroV, go_sem, r0, r1, r2, r3, r4]) rfl ⟨rfl, ?_⟩
  exact ((((hb.setCell (by show w.heap.size ≤ w.heap.size + 2; omega) _).setCell (by show w.heap.size ≤ w.heap.size + 2; omega) _).setCell (by show w.heap.size ≤ w.heap.size + 2; omega) _).setCell (by show w.heap.size ≤ w.heap.size + 2; omega) _).setCell (by show w.heap.size ≤ w.heap.size + 2; omega) _

set_option maxHeartbeats 4000000 in
theorem rjoin_yes (b c l : Int) (h t : ByteArray) (b' c' l' : Int) (h' t' : ByteArray) (F : Fit b c l h t) (F' : Fit b' c' l' h' t') (ho : okB b c l (bs h) (bs t) = true) (ho' : okB b' c' l' (bs h') (bs t') = true)
    (C L : Int) (hC : seamC (bs t) (bs h') = C) (hL : seamL (bs t) (bs h') = L) (w : World) :
    Calls Tryd.prog 19 #[.agg #[.int .i64 b, .int .i64 c, .int .i64 l, .string h, .string t], .agg #[.int .i64 b', .int .i64 c', .int .i64 l', .string h', .string t']] w fun e w' =>
      e = .returned (joinV b c l (bs h) (bs t) b' c' l' (bs h') (bs t') C L) ∧ Below w.heap.size w w' := by
  have HS := Lib.hid (RSeam_any b c l h t b' c' l' h' t' F F' true true ho ho' C L hC hL)
  rw [Bool.and_self, if_pos rfl] at HS
  have hf := okB_facts ho
  have hf' := okB_facts ho'
  have hsb := seam_bounds (bs t) (bs h')
  rw [hC, hL] at hsb
  have hF2 := F.b
  have hF2' := F'.b
  clear ho ho' hC hL
  unfold joinV
  obtain ⟨X1, X2, X3, hb⟩ := three_new w b c l h t b' c' l' h' t'
  have X1 := Lib.hid X1
  have X2 := Lib.hid X2
  have X3 := Lib.hid X3
  by_cases hbig : 9223372036854775807 - b' < b
  · rw [if_pos hbig]
    go_enter Tryd.func19, Tryd.ntmps19
    go_wp2_with fail
    (with_reducible refine (HS.out _).mono ?_)
    rintro e w1 ⟨rfl, hb1⟩
    have hb := nx hb hb1
    have X1 := Lib.hid (X1.out.keep hb1)
    have X2 := Lib.hid (X2.out.keep hb1)
    have X3 := Lib.hid (X3.out.keep hb1)
    clear hb1
    obtain ⟨x0, x1, x2, x3, x4⟩ := X1.out
    obtain ⟨y0, y1, y2, y3, y4⟩ := X2.out
    obtain ⟨hr, hz, _⟩ := X3.out
    have r0 := hr 0
    have r1 := hr 1
    have r2 := hr 2
    have r3 := hr 3
    have r4 := hr 4
    have z0 := hz 0
    have z1 := hz 1
    have z2 := hz 2
    have z3 := hz 3
    have z4 := hz 4
    clear hr hz
    simp only [List.getElem?_toArray, List.getElem?_cons_zero, List.getElem?_cons_succ] at r0 r1 r2 r3 r4
    go_wp2_with fail
    refine bodyPost_ret (v := .tuple #[zeroV, .int .i64 2]) (by simp [results, Tryd.results19, zeroV, go_sem, r0, r1, r2, r3, r4]) rfl ⟨rfl, ?_⟩
    exact ((((hb.setCell (by show w.heap.size ≤ w.heap.size + 2; omega) _).setCell (by show w.heap.size ≤ w.heap.size + 2; omega) _).setCell (by show w.heap.size ≤ w.heap.size + 2; omega) _).setCell (by show w.heap.size ≤ w.heap.size + 2; omega) _).setCell (by show w.heap.size ≤ w.heap.size + 2; omega) _
  · rw [if_neg hbig]
    have hsz : (h ++ h').size ≤ 140737488351232 := by rw [ByteArray.size_append]; have := F.h; have := F'.h; rw [size_bs h, size_bs h']; omega
    have hsz2 : (t ++ t').size ≤ 140737488351232 := by rw [ByteArray.size_append, size_bs t, size_bs t']; omega
    have hc1 : ¬ (9223372036854775807 < h.size + h'.size) := by rw [size_bs h, size_bs h']; omega
    have hc2 : ¬ (9223372036854775807 < t.size + t'.size) := by rw [size_bs t, size_bs t']; omega
    have HFI := Lib.hid (rhead_any (h ++ h') hsz)
    have HLA := Lib.hid (rtail_any (t ++ t') hsz2)
    rw [bs_append] at HFI HLA
    have hw1 : IntKind.i64.wrap (b + b') = b + b' := by rw [IntKind.wrap_i64]; omega
    have hw2 : IntKind.i64.wrap (c + c') = c + c' := by rw [IntKind.wrap_i64]; omega
    have hw3 : IntKind.i64.wrap (c + c' + C) = c + c' + C := by rw [IntKind.wrap_i64]; omega
    have hw4 : IntKind.i64.wrap (l + l') = l + l' := by rw [IntKind.wrap_i64]; omega
    obtain ⟨LW, hLW⟩ : ∃ LW, IntKind.i64.wrap (l + l' + L) = LW := ⟨_, rfl⟩
    have hLb : -9223372036854775808 ≤ LW ∧ LW ≤ 9223372036854775807 := by rw [← hLW, IntKind.wrap_i64]; omega
    have hsh : (sB (hd3 (bs h ++ bs h'))).size ≤ 140737488351232 := by rw [sB_size, hd3_len]; omega
    have hst : (sB (tl3 (bs t ++ bs t'))).size ≤ 140737488351232 := by rw [sB_size, tl3_len]; omega
    obtain ⟨o, hoo⟩ : ∃ o, okB (b + b') (c + c' + C) LW (hd3 (bs h ++ bs h')) (tl3 (bs t ++ bs t')) = o := ⟨_, rfl⟩
    have HK := Lib.hid (tmay_any (b + b') (c + c' + C) LW (sB (hd3 (bs h ++ bs h'))) (sB (tl3 (bs t ++ bs t'))) ⟨by omega, by omega, hLb, hsh, hst⟩ o (by rw [bs_sB, bs_sB]; exact hoo))
    rw [hLW, hoo]
    clear hoo hsz hsz2
    obtain ⟨H3, h3⟩ : ∃ z, sB (hd3 (bs h ++ bs h')) = z := ⟨_, rfl⟩
    obtain ⟨T3, t3⟩ : ∃ z, sB (tl3 (bs t ++ bs t')) = z := ⟨_, rfl⟩
    rw [h3, t3]
    rw [h3] at HFI HK hsh
    rw [t3] at HLA HK hst
    clear h3 t3
    go_enter Tryd.func19, Tryd.ntmps19
    go_wp2_with fail
    (with_reducible refine (HS.out _).mono ?_)
    rintro e w1 ⟨rfl, hb1⟩
    have hb := nx hb hb1
    have X1 := Lib.hid (X1.out.keep hb1)
    have X2 := Lib.hid (X2.out.keep hb1)
    have X3 := Lib.hid (X3.out.keep hb1)
    clear hb1
    obtain ⟨x0, x1, x2, x3, x4⟩ := X1.out
    obtain ⟨y0, y1, y2, y3, y4⟩ := X2.out
    go_wp2_with fail
    have hS := And.intro x0 (And.intro x1 (And.intro x2 (And.intro x3 (And.intro x4 (And.intro y0 (And.intro y1 (And.intro y2 (And.intro y3 (And.intro y4 hb)))))))))
    go_region_held3 (fun w' => w'.cell? ⟨w.heap.size, 0, none⟩ = some (.int .i64 b) ∧ w'.cell? ⟨w.heap.size, 1, none⟩ = some (.int .i64 c) ∧ w'.cell? ⟨w.heap.size, 2, none⟩ = some (.int .i64 l) ∧ w'.cell? ⟨w.heap.size, 3, none⟩ = some (.string h) ∧ w'.cell? ⟨w.heap.size, 4, none⟩ = some (.string t) ∧ w'.cell? ⟨w.heap.size + 1, 0, none⟩ = some (.int .i64 b') ∧ w'.cell? ⟨w.heap.size + 1, 1, none⟩ = some (.int .i64 c') ∧ w'.cell? ⟨w.heap.size + 1, 2, none⟩ = some (.int .i64 l') ∧ w'.cell? ⟨w.heap.size + 1, 3, none⟩ = some (.string h') ∧ w'.cell? ⟨w.heap.size + 1, 4, none⟩ = some (.string t') ∧ Below w.heap.size w w') (first | assumption | exact boxes_keep hS (Below.refl _ _).drew | exact boxes_keep hS ((Below.refl _ _).alloc (Nat.le_refl _) _).drew | exact boxes_keep hS ((Below.refl _ _).drew.alloc (Nat.le_refl _) _) | exact boxes_keep (by assumption) ((Below.refl _ _).alloc (Nat.le_refl _) _) | exact boxes_keep (by assumption) ((Below.refl _ _).drew.alloc (Nat.le_refl _) _) | exact boxes_keep (by assumption) (((Below.refl _ _).alloc (Nat.le_refl _) _).setCell (Nat.le_refl _) _))
      (first | (go_at_call 32; (with_reducible refine (HFI.out _).mono ?_); rintro e w' ⟨rfl, rfl⟩) | (go_at_call 33; (with_reducible refine (HLA.out _).mono ?_); rintro e w' ⟨rfl, rfl⟩))
    all_goals
      have hV := ((Below.refl w1.heap.size w1).alloc (Nat.le_refl _) (.cells #[.int .i64 (b + b'), .int .i64 (c + c' + C), .int .i64 LW, .string H3, .string T3] 23)).drew
      have X4 := (BoxAt.new w1 (b + b') (c + c' + C) LW H3 T3).keep (Below.refl _ _).drew
      have X3 := Lib.hid (X3.out.keep hV)
      have hb := nx hb hV
      clear hV
      go_wp2_with fail
      (with_reducible refine (HK.out _).mono ?_)
      rintro e w2 ⟨rfl, hb2⟩
      have hb := nx hb hb2
      have X4 := X4.keep hb2
      have X3 := Lib.hid (X3.out.keep hb2)
      clear hb2
      obtain ⟨q0, q1, q2, q3, q4⟩ := X4
      obtain ⟨hr, hz, _⟩ := X3.out
      have r0 := hr 0
      have r1 := hr 1
      have r2 := hr 2
      have r3 := hr 3
      have r4 := hr 4
      have z0 := hz 0
      have z1 := hz 1
      have z2 := hz 2
      have z3 := hz 3
      have z4 := hz 4
      clear hr hz
      simp only [List.getElem?_toArray, List.getElem?_cons_zero, List.getElem?_cons_succ] at r0 r1 r2 r3 r4
      cases o
      · go_wp2_with fail
        refine bodyPost_ret (v := .tuple #[zeroV, .int .i64 30]) (by simp [results, Tryd.results19, zeroV, go_sem, r0, r1, r2, r3, r4]) rfl ⟨rfl, ?_⟩
        exact ((((hb.setCell (by show w.heap.size ≤ w.heap.size + 2; omega) _).setCell (by show w.heap.size ≤ w.heap.size + 2; omega) _).setCell (by show w.heap.size ≤ w.heap.size + 2; omega) _).setCell (by show w.heap.size ≤ w.heap.size + 2; omega) _).setCell (by show w.heap.size ≤ w.heap.size + 2; omega) _
      · go_wp2_with fail
        refine bodyPost_ret (v := .tuple #[.agg #[.int .i64 (b + b'), .int .i64 (c + c' + C), .int .i64 LW, .string H3, .string T3], .int .i64 0]) (by simp [results, Tryd.results19, go_sem, r0, r1, r2, r3, r4]) rfl ⟨rfl, ?_⟩
        exact ((((hb.setCell (by show w.heap.size ≤ w.heap.size + 2; omega) _).setCell (by show w.heap.size ≤ w.heap.size + 2; omega) _).setCell (by show w.heap.size ≤ w.heap.size + 2; omega) _).setCell (by show w.heap.size ≤ w.heap.size + 2; omega) _).setCell (by show w.heap.size ≤ w.heap.size + 2; omega) _
end Go.Proofs.YtpihmbdfhhjleaaDoor
