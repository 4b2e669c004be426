/-
  The contracts of the tally's small functions, and of Of.
-/
import Derived.Test.YtpihmbdfhhjleaaDoorTalEnds
import Derived.Laws.NewBlocks
import Derived.Laws.StructEq
namespace Go.Proofs.YtpihmbdfhhjleaaDoor
open Go.RowKit

/-- A text of the bytes. -/
def sB (l : Bs) : ByteArray := ⟨l.toArray⟩
theorem sB_bs (s : ByteArray) : sB (bs s) = s := by unfold sB bs; simp
theorem bs_sB (l : Bs) : bs (sB l) = l := by unfold sB bs; simp
theorem sB_of {s : ByteArray} {l : Bs} (h : bs s = l) : s = sB l := by rw [← h, sB_bs]
theorem sB_size (l : Bs) : (sB l).size = l.length := by rw [size_bs, bs_sB]

/-- A tally, as a value. -/
def tV (b c l : Int) (h t : ByteArray) : Value := .agg #[.int .i64 b, .int .i64 c, .int .i64 l, .string h, .string t]
def tOf (l : Bs) : Value := tV l.length (countN l) (linN l) (sB (hd3 l)) (sB (tl3 l))

theorem first_cut (s : ByteArray) (n : Nat) (h : n = min s.size 3) : s.extract 0 n = sB (hd3 (bs s)) := by
  apply sB_of
  rw [bs_take]
  unfold hd3
  rw [size_bs] at h
  by_cases h3 : (bs s).length ≤ 3
  · rw [List.take_of_length_le (by omega), List.take_of_length_le h3]
  · congr 1; omega
theorem last_cut (s : ByteArray) (n : Nat) (h : n = s.size - min s.size 3) : s.extract n s.size = sB (tl3 (bs s)) := by
  apply sB_of
  rw [bs_drop]
  unfold tl3
  rw [size_bs] at h
  congr 1
  omega

theorem tfirst_any (s : ByteArray) (hs : s.size ≤ 1125899906842624) (w : World) :
    Calls Tryd.prog 28 #[.string s] w fun e w' => e = .returned (.string (sB (hd3 (bs s)))) ∧ w' = w := by
  have H := Lib.hid (first_cut s (min (s.size : Int) 3).toNat (by omega))
  go_enter Tryd.func28, Tryd.ntmps28
  go_wp2_with fail
  go_ret
  rw [H.out]
  exact ⟨rfl, rfl⟩

theorem tlast_any (s : ByteArray) (hs : s.size ≤ 1125899906842624) (w : World) :
    Calls Tryd.prog 29 #[.string s] w fun e w' => e = .returned (.string (sB (tl3 (bs s)))) ∧ w' = w := by
  have H := Lib.hid (last_cut s ((s.size : Int) - min (s.size : Int) 3).toNat (by omega))
  go_enter Tryd.func29, Tryd.ntmps29
  go_wp2_with fail
  go_ret
  rw [H.out]
  exact ⟨rfl, rfl⟩

/-- separates, of any rune -/
def sepZ (r : Int) : Bool := decide (r = 133 ∨ r = 8232 ∨ r = 8233)
theorem sepZ_nat (r : Nat) : sepZ (r : Int) = sepN r := by
  unfold sepZ sepN
  by_cases h : r = 133 ∨ r = 8232 ∨ r = 8233
  · rw [decide_eq_true h, decide_eq_true (by omega)]
  · rw [decide_eq_false h, decide_eq_false (by omega)]
theorem separates_any (r : Int) (w : World) :
    Calls Tryd.prog 30 #[.int .i32 r] w fun e w' => e = .returned (.bool (sepZ r)) ∧ w' = w := by
  by_cases h1 : r = 133
  · subst h1
    go_enter Tryd.func30, Tryd.ntmps30
    go_wp2
    go_ret
    exact ⟨rfl, rfl⟩
  · by_cases h2 : r = 8232
    · subst h2
      go_enter Tryd.func30, Tryd.ntmps30
      go_wp2
      go_ret
      exact ⟨rfl, rfl⟩
    · by_cases h3 : r = 8233
      · subst h3
        go_enter Tryd.func30, Tryd.ntmps30
        go_wp2
        go_ret
        exact ⟨rfl, rfl⟩
      · have H := Lib.hid (show sepZ r = false from decide_eq_false (by omega))
        have b1 : (r == 133) = false := beq_eq_false_iff_ne.2 h1
        have b2 : (r == 8232) = false := beq_eq_false_iff_ne.2 h2
        have b3 : (r == 8233) = false := beq_eq_false_iff_ne.2 h3
        clear h1 h2 h3
        go_enter Tryd.func30, Tryd.ntmps30
        go_wp2
        go_ret
        rw [H.out]
        exact ⟨rfl, rfl⟩

theorem separates_at (r : Nat) (b : Bool) (h : sepN r = b) (w : World) :
    Calls Tryd.prog 30 #[.int .i32 r] w fun e w' => e = .returned (.bool b) ∧ w' = w := by
  have := separates_any r w
  rwa [sepZ_nat, h] at this

theorem iter_setCell (W : World) (s : ByteArray) (p n i : Nat) (v : Value) (h : n < W.heap.size) : (W.iter s p).setCell ⟨n, i, none⟩ v = (W.setCell ⟨n, i, none⟩ v).iter s p := by
  unfold World.iter
  exact World.setCell_alloc_past (w := W) _ n i v h

theorem tObj_pos (W : World) (s : ByteArray) (p : Nat) (o : Obj) : ((W.alloc o).iter s p).iterPos (W.heap.size + 1) = p := by
  have h : ∀ V : World, (V.iter s p).iterPos V.heap.size = p := by intro V; simp
  have := h (W.alloc o)
  rwa [World.size_alloc] at this
theorem tObj_chars (W : World) (s : ByteArray) (p : Nat) (b c l x : Int) (h t : ByteArray) : ((W.alloc (.cells #[.int .i64 b, .int .i64 c, .int .i64 l, .string h, .string t] 23)).iter s p).setCell ⟨W.heap.size, 1, none⟩ (.int .i64 x) = (W.alloc (.cells #[.int .i64 b, .int .i64 x, .int .i64 l, .string h, .string t] 23)).iter s p := by
  rw [iter_setCell _ _ _ _ _ _ (by simp), World.setCell_alloc_at (w := W) _ _ _ _ _ rfl]
  rfl
theorem tObj_both (W : World) (s : ByteArray) (p : Nat) (b c l x y : Int) (h t : ByteArray) : (((W.alloc (.cells #[.int .i64 b, .int .i64 c, .int .i64 l, .string h, .string t] 23)).iter s p).setCell ⟨W.heap.size, 1, none⟩ (.int .i64 x)).setCell ⟨W.heap.size, 2, none⟩ (.int .i64 y) = (W.alloc (.cells #[.int .i64 b, .int .i64 x, .int .i64 y, .string h, .string t] 23)).iter s p := by
  rw [tObj_chars, iter_setCell _ _ _ _ _ _ (by simp), World.setCell_alloc_at (w := W) _ _ _ _ _ rfl]
  rfl
theorem tObj_cell (W : World) (s : ByteArray) (p : Nat) (b c l : Int) (h t : ByteArray) (i : Nat) (_ : i < 5) : ((W.alloc (.cells #[.int .i64 b, .int .i64 c, .int .i64 l, .string h, .string t] 23)).iter s p).cell? ⟨W.heap.size, i, none⟩ = #[Value.int .i64 b, .int .i64 c, .int .i64 l, .string h, .string t][i]? := by
  unfold World.iter
  rw [World.cell?_alloc_past _ _ _ (by simp), World.cell?_alloc_at _ _ _ _ rfl]
theorem tObj_frozen (W : World) (s : ByteArray) (p : Nat) (b c l : Int) (h t : ByteArray) (i : Nat) : ((W.alloc (.cells #[.int .i64 b, .int .i64 c, .int .i64 l, .string h, .string t] 23)).iter s p).frozen? ⟨W.heap.size, i, none⟩ = false := by
  unfold World.iter
  rw [World.frozen?_alloc_past _ _ _ (by simp), World.frozen?_alloc_at _ _ _ _ rfl]

theorem below_eq {w w' : World} (h : w' = w) : Below w.heap.size w w' := by subst h; exact Below.refl _ _
theorem nx' {w w1 w2 : World} (h : Below w.heap.size w w1) (h1 : Below w1.heap.size w1 w2) : Below w.heap.size w w2 := nx h h1
/-- Of, of any text -/
theorem tof_any (s : ByteArray) (hs : s.size ≤ 1125899906842624) (w : World) :
    Calls Tryd.prog 11 #[.string s] w fun e w' => e = .returned (tOf (bs s)) ∧ Below w.heap.size w w' := by
  have hb := Below.refl w.heap.size w
  go_enter Tryd.func11, Tryd.ntmps11
  go_wp2_with (first
    | (go_at_call 28; (with_reducible refine (tfirst_any s hs _).mono ?_); rintro e w1 ⟨rfl, h1⟩; have hb1 := below_eq h1; clear h1)
    | (go_at_call 29; (with_reducible refine (tlast_any s hs _).mono ?_); rintro e w2 ⟨rfl, h2⟩; have hb2 := below_eq h2; clear h2))
  go_loopw [4] (fun _ wr => ∃ done p, Cut (bs s) done p ∧ wr = (w2.alloc (.cells #[.int .i64 s.size, .int .i64 done.length, .int .i64 (linC false done), .string (sB (hd3 (bs s))), .string (sB (tl3 (bs s)))] 23)).iter s p) (fun _ wr => s.size - wr.iterPos (w2.heap.size + 1))
  case atStart => exact ⟨[], 0, Cut.zero _, rfl⟩
  case round =>
    obtain ⟨done, p, hc, rfl⟩ := hrel
    have hle := hc.len_le
    have hpl := hc.1
    rw [← size_bs] at hpl
    by_cases hp : p < s.size
    · have hnx := fun ty => run_next_any (P := Tryd.prog) (w2.alloc (.cells #[.int .i64 s.size, .int .i64 done.length, .int .i64 (linC false done), .string (sB (hd3 (bs s))), .string (sB (tl3 (bs s)))] 23)) s p ty hp
      have hst := Lib.hid (hc.step (by rw [← size_bs]; exact hp))
      rw [decode_bs] at hnx
      have hw := (wid_bounds ((bs s).drop p)).1
      obtain ⟨d, hd⟩ : ∃ d, d = Lib.decodeL ((bs s).drop p) := ⟨_, rfl⟩
      rw [← hd] at hnx hst hw
      have hcr := crLast_cut hc
      have hinc := linC_zero done d
      have hlc : linC false done ≤ done.length := by rw [linC_false]; exact linT_le _
      clear hd hc
      rw [World.size_alloc] at hnx
      obtain ⟨W, hW⟩ : ∃ W, (w2.alloc (.cells #[.int .i64 s.size, .int .i64 done.length, .int .i64 (linC false done), .string (sB (hd3 (bs s))), .string (sB (tl3 (bs s)))] 23)).iter s (p + d.2) = W := ⟨_, rfl⟩
      rw [hW] at hnx
      have c1 : W.cell? ⟨w2.heap.size, 1, none⟩ = some (.int .i64 done.length) := by rw [← hW]; exact tObj_cell w2 s _ _ _ _ _ _ 1 (by omega)
      have c2 : W.cell? ⟨w2.heap.size, 2, none⟩ = some (.int .i64 (linC false done)) := by rw [← hW]; exact tObj_cell w2 s _ _ _ _ _ _ 2 (by omega)
      have z1 : W.frozen? ⟨w2.heap.size, 1, none⟩ = false := by rw [← hW]; exact tObj_frozen w2 s _ _ _ _ _ _ 1
      have z2 : W.frozen? ⟨w2.heap.size, 2, none⟩ = false := by rw [← hW]; exact tObj_frozen w2 s _ _ _ _ _ _ 2
      have HW := Lib.hid hW
      clear hW
      by_cases h13 : d.1 = 13
      · rw [if_pos (.inr (.inl h13))] at hinc
        rw [h13] at hnx
        have HI := Lib.hid hinc
        clear hinc h13 hcr
        go_wp2
        have hE := tObj_both w2 s (p + d.2) s.size done.length (linC false done) (done.length + 1) (linC false done + 1) (sB (hd3 (bs s))) (sB (tl3 (bs s)))
        rw [HW.out] at hE
        rw [hE]
        refine ⟨⟨_, _, hst.out, ?_⟩, ?_⟩
        · rw [HI.out]; simp
        · rw [tObj_pos, tObj_pos]; omega
      · by_cases h10 : d.1 = 10
        · by_cases hp0 : p = 0
          · have hf : crLast done = false := by rw [hcr]; exact decide_eq_false (by omega)
            rw [if_pos (.inl ⟨h10, hf⟩)] at hinc
            rw [h10] at hnx
            have HI := Lib.hid hinc
            have hpb : ((p : Int) == 0) = true := beq_iff_eq.2 (by omega)
            clear hinc h13 h10 hcr hf hp0
            go_wp2
            have hE := tObj_both w2 s (p + d.2) s.size done.length (linC false done) (done.length + 1) (linC false done + 1) (sB (hd3 (bs s))) (sB (tl3 (bs s)))
            rw [HW.out] at hE
            rw [hE]
            refine ⟨⟨_, _, hst.out, ?_⟩, ?_⟩
            · rw [HI.out]; simp
            · rw [tObj_pos, tObj_pos]; omega
          · have hsub : p - 1 < s.size := by omega
            have hg := get_bs s (p - 1) hsub
            have hpb : ((p : Int) == 0) = false := beq_eq_false_iff_ne.2 (by omega)
            by_cases hx : by' (bs s) (p - 1) = 13
            · have hf : crLast done = true := by rw [hcr]; exact decide_eq_true ⟨by omega, hx⟩
              rw [if_neg (by rw [h10, hf]; simp [sepN])] at hinc
              rw [h10] at hnx
              rw [hx] at hg
              have HI := Lib.hid hinc
              clear hinc h13 h10 hcr hf hx
              go_wp2
              have hE := tObj_chars w2 s (p + d.2) s.size done.length (linC false done) (done.length + 1) (sB (hd3 (bs s))) (sB (tl3 (bs s)))
              rw [HW.out] at hE
              rw [hE]
              refine ⟨⟨_, _, hst.out, ?_⟩, ?_⟩
              · rw [HI.out]; simp
              · rw [tObj_pos, tObj_pos]; omega
            · have hf : crLast done = false := by rw [hcr]; exact decide_eq_false (fun h => hx h.2)
              rw [if_pos (.inl ⟨h10, hf⟩)] at hinc
              rw [h10] at hnx
              obtain ⟨x, hxx⟩ : ∃ x, by' (bs s) (p - 1) = x := ⟨_, rfl⟩
              rw [hxx] at hg hx
              have hxb : ((x : Int) != 13) = true := by simp; omega
              have HI := Lib.hid hinc
              clear hinc h13 h10 hcr hf hxx hx
              go_wp2
              have hE := tObj_both w2 s (p + d.2) s.size done.length (linC false done) (done.length + 1) (linC false done + 1) (sB (hd3 (bs s))) (sB (tl3 (bs s)))
              rw [HW.out] at hE
              rw [hE]
              refine ⟨⟨_, _, hst.out, ?_⟩, ?_⟩
              · rw [HI.out]; simp
              · rw [tObj_pos, tObj_pos]; omega
        · obtain ⟨r, hr⟩ : ∃ r, d.1 = r := ⟨_, rfl⟩
          rw [hr] at h13 h10 hnx hinc
          have b13 : ((r : Int) == 13) = false := beq_eq_false_iff_ne.2 (by omega)
          have b10 : ((r : Int) == 10) = false := beq_eq_false_iff_ne.2 (by omega)
          cases hs : sepN r
          · rw [if_neg (by rw [hs]; simp [h10, h13])] at hinc
            have HI := Lib.hid hinc
            have HSP := Lib.hid (fun w => separates_at r false hs w)
            clear hinc h13 h10 hcr hr hs
            go_wp2_with (go_at_call 30; (with_reducible refine (HSP.out _).mono ?_); rintro e w' ⟨rfl, rfl⟩)
            have hE := tObj_chars w2 s (p + d.2) s.size done.length (linC false done) (done.length + 1) (sB (hd3 (bs s))) (sB (tl3 (bs s)))
            rw [HW.out] at hE
            rw [hE]
            refine ⟨⟨_, _, hst.out, ?_⟩, ?_⟩
            · rw [HI.out]; simp
            · rw [tObj_pos, tObj_pos]; omega
          · rw [if_pos (.inr (.inr hs))] at hinc
            have HI := Lib.hid hinc
            have HSP := Lib.hid (fun w => separates_at r true hs w)
            clear hinc h13 h10 hcr hr hs
            go_wp2_with (go_at_call 30; (with_reducible refine (HSP.out _).mono ?_); rintro e w' ⟨rfl, rfl⟩)
            have hE := tObj_both w2 s (p + d.2) s.size done.length (linC false done) (done.length + 1) (linC false done + 1) (sB (hd3 (bs s))) (sB (tl3 (bs s)))
            rw [HW.out] at hE
            rw [hE]
            refine ⟨⟨_, _, hst.out, ?_⟩, ?_⟩
            · rw [HI.out]; simp
            · rw [tObj_pos, tObj_pos]; omega
    · have he := (hc.end' (by rw [← size_bs]; exact hp)).1
      have hl : linN (bs s) = linC false done := by unfold linN; rw [linC_false, he]
      have hcn : countN (bs s) = done.length := by unfold countN; rw [he]
      have HL := Lib.hid hl
      have HC := Lib.hid hcn
      have hnx := fun ty => run_next_end (P := Tryd.prog) (w2.alloc (.cells #[.int .i64 s.size, .int .i64 done.length, .int .i64 (linC false done), .string (sB (hd3 (bs s))), .string (sB (tl3 (bs s)))] 23)) s p ty hp
      clear he hl hcn hc
      rw [World.size_alloc] at hnx
      have hlt : w.heap.size < w2.heap.size := by have := hb1.size; have := hb2.size; rw [World.size_alloc] at *; omega
      have hr : ∀ i, ((w2.alloc (.cells #[.int .i64 s.size, .int .i64 done.length, .int .i64 (linC false done), .string (sB (hd3 (bs s))), .string (sB (tl3 (bs s)))] 23)).iter s p).cell? ⟨w.heap.size, i, none⟩ = #[Value.int .i64 0, .int .i64 0, .int .i64 0, .string ⟨#[]⟩, .string ⟨#[]⟩][i]? := by
        intro i
        unfold World.iter
        rw [World.cell?_alloc_past _ _ _ (by simp; omega), World.cell?_alloc_past _ _ _ hlt, hb2.cell (by show w.heap.size < _; have := hb1.size; rw [World.size_alloc] at this; omega), hb1.cell (by show w.heap.size < _; rw [World.size_alloc]; omega), World.cell?_alloc_at _ _ _ _ rfl]
      have c0 := tObj_cell w2 s p s.size done.length (linC false done) (sB (hd3 (bs s))) (sB (tl3 (bs s))) 0 (by omega)
      have c1 := tObj_cell w2 s p s.size done.length (linC false done) (sB (hd3 (bs s))) (sB (tl3 (bs s))) 1 (by omega)
      have c2 := tObj_cell w2 s p s.size done.length (linC false done) (sB (hd3 (bs s))) (sB (tl3 (bs s))) 2 (by omega)
      have c3 := tObj_cell w2 s p s.size done.length (linC false done) (sB (hd3 (bs s))) (sB (tl3 (bs s))) 3 (by omega)
      have c4 := tObj_cell w2 s p s.size done.length (linC false done) (sB (hd3 (bs s))) (sB (tl3 (bs s))) 4 (by omega)
      have hz : ∀ i, ((w2.alloc (.cells #[.int .i64 s.size, .int .i64 done.length, .int .i64 (linC false done), .string (sB (hd3 (bs s))), .string (sB (tl3 (bs s)))] 23)).iter s p).frozen? ⟨w.heap.size, i, none⟩ = false := by
        intro i
        unfold World.iter
        rw [World.frozen?_alloc_past _ _ _ (by simp; omega), World.frozen?_alloc_past _ _ _ hlt, hb2.frozen (by show w.heap.size < _; have := hb1.size; rw [World.size_alloc] at this; omega), hb1.frozen (by show w.heap.size < _; rw [World.size_alloc]; omega), World.frozen?_alloc_at _ _ _ _ rfl]
      have hbl : Below w.heap.size w ((w2.alloc (.cells #[.int .i64 s.size, .int .i64 done.length, .int .i64 (linC false done), .string (sB (hd3 (bs s))), .string (sB (tl3 (bs s)))] 23)).iter s p) := by
        unfold World.iter
        exact al (al (nx (nx' (al hb _) hb1) hb2) _) _
      have r0 := hr 0
      have r1 := hr 1
      have r2 := hr 2
      have r3 := hr 3
      have r4 := hr 4
      have z0 := hz 0
      have z1 := hz 1
      have z2 := hz 2
      have z3 := hz 3
      have z4 := hz 4
      clear hr hz
      simp only [List.getElem?_toArray, List.getElem?_cons_zero, List.getElem?_cons_succ] at c0 c1 c2 c3 c4 r0 r1 r2 r3 r4
      obtain ⟨W, hW⟩ : ∃ W, (w2.alloc (.cells #[.int .i64 s.size, .int .i64 done.length, .int .i64 (linC false done), .string (sB (hd3 (bs s))), .string (sB (tl3 (bs s)))] 23)).iter s p = W := ⟨_, rfl⟩
      rw [hW] at hnx c0 c1 c2 c3 c4 r0 r1 r2 r3 r4 z0 z1 z2 z3 z4 hbl ⊢
      clear hW
      go_wp2
      refine bodyPost_ret (v := .agg #[.int .i64 s.size, .int .i64 done.length, .int .i64 (linC false done), .string (sB (hd3 (bs s))), .string (sB (tl3 (bs s)))]) (by simp [results, Tryd.results11, go_sem, r0, r1, r2, r3, r4]) rfl ⟨?_, ?_⟩
      · unfold tOf tV
        rw [HL.out, HC.out, ← size_bs]
      · exact ((((hbl.setCell (Nat.le_refl _) _).setCell (Nat.le_refl _) _).setCell (Nat.le_refl _) _).setCell (Nat.le_refl _) _).setCell (Nat.le_refl _) _
end Go.Proofs.YtpihmbdfhhjleaaDoor
