/-
  The walk of the law TallySums.
-/
import Derived.Test.YtpihmbdfhhjleaaDoorTalMade
namespace Go.Proofs.YtpihmbdfhhjleaaDoor
open Go.RowKit

def markR : Rec := ⟨-7, 0, 0, ⟨#[]⟩, ⟨#[]⟩⟩
/-- what x holds behind k rounds of the first loop -/
def f1 (xs : List Rec) (k : Nat) (i : Nat) : Rec := if i < k then (xs[i]?.getD markR) else zeroR

theorem f1_in (xs : List Rec) (k : Nat) (hk : k < xs.length) (x : Rec) (hx : xs[k]'hk = x) (i : Nat) : (if i = k then x else if i = k then markR else f1 xs k i) = f1 xs (k + 1) i := by
  unfold f1
  by_cases e : i = k
  · subst e
    rw [if_pos rfl, if_pos (by omega), List.getElem?_eq_getElem hk, hx]; rfl
  · rw [if_neg e, if_neg e]
    by_cases h : i < k
    · rw [if_pos h, if_pos (by omega)]
    · rw [if_neg h, if_neg (by omega)]
theorem f1_out (xs : List Rec) (k : Nat) (hk : ¬ k < xs.length) (i : Nat) : (if i = k then markR else f1 xs k i) = f1 xs (k + 1) i := by
  unfold f1
  by_cases e : i = k
  · subst e
    rw [if_pos rfl, if_pos (by omega), List.getElem?_eq_none (by omega)]; rfl
  · rw [if_neg e]
    by_cases h : i < k
    · rw [if_pos h, if_pos (by omega)]
    · rw [if_neg h, if_neg (by omega)]
theorem f1_all (xs : List Rec) (n i : Nat) (hi : i < xs.length) (hn : i < n) : f1 xs n i = xs[i]'hi := by
  unfold f1
  rw [if_pos hn, List.getElem?_eq_getElem hi]; rfl
theorem f1_mark (xs : List Rec) (n i : Nat) (hi : ¬ i < xs.length) (hn : i < n) : f1 xs n i = markR := by
  unfold f1
  rw [if_pos hn, List.getElem?_eq_none (by omega)]; rfl
theorem box_other {W : World} {g : Nat} {b c l : Int} {h t : ByteArray} (H : BoxAt W g b c l h t) (q o : Nat) (y : Rec) (hq : g ≠ q) : BoxAt (set5o W q o y) g b c l h t :=
  ⟨(set5o_block W q o y ⟨g, _, none⟩ hq).trans H.1, (set5o_block W q o y ⟨g, _, none⟩ hq).trans H.2.1, (set5o_block W q o y ⟨g, _, none⟩ hq).trans H.2.2.1, (set5o_block W q o y ⟨g, _, none⟩ hq).trans H.2.2.2.1, (set5o_block W q o y ⟨g, _, none⟩ hq).trans H.2.2.2.2⟩

def recA : Rec := ⟨2, 2, 0, ⟨#[226, 128]⟩, ⟨#[226, 128]⟩⟩
def recB : Rec := ⟨2, 2, 1, ⟨#[169, 13]⟩, ⟨#[169, 13]⟩⟩
theorem isA : IsT [226, 128] 2 2 0 ⟨#[226, 128]⟩ ⟨#[226, 128]⟩ := ⟨rfl, by decide +kernel, by decide +kernel, rfl, rfl⟩
theorem isB : IsT [169, 13] 2 2 1 ⟨#[169, 13]⟩ ⟨#[169, 13]⟩ := ⟨rfl, by decide +kernel, by decide +kernel, rfl, rfl⟩
def ysf (i : Nat) : Rec := if i % 2 = 1 then recB else recA
def ysl (k : Nat) : List Rec := (List.range k).map ysf
theorem ysl_len (k : Nat) : (ysl k).length = k := by simp [ysl]
theorem ysl_succ (k : Nat) : ysl (k + 1) = ysl k ++ [ysf k] := by simp [ysl, List.range_succ]
theorem ysl_get (k i : Nat) (hi : i < (ysl k).length) : (ysl k)[i]'hi = ysf i := by simp [ysl]
theorem ysf_fit (i : Nat) : (ysf i).fit := by
  unfold ysf
  split
  · exact ⟨by decide, by decide, by decide, by decide, by decide⟩
  · exact ⟨by decide, by decide, by decide, by decide, by decide⟩
/-- what x holds behind k rounds of the second loop -/
def f2 (xs : List Rec) (n k : Nat) (i : Nat) : Rec := if i < k then ysf i else f1 xs (n + 2) i
theorem f2_odd (xs : List Rec) (n k : Nat) (h : k % 2 = 1) (i : Nat) : (if i = k then recB else if i = k then recA else f2 xs n k i) = f2 xs n (k + 1) i := by
  unfold f2
  by_cases e : i = k
  · subst e
    rw [if_pos rfl, if_pos (by omega)]
    unfold ysf
    rw [if_pos h]
  · rw [if_neg e, if_neg e]
    by_cases h : i < k
    · rw [if_pos h, if_pos (by omega)]
    · rw [if_neg h, if_neg (by omega)]
theorem f2_even (xs : List Rec) (n k : Nat) (h : ¬ k % 2 = 1) (i : Nat) : (if i = k then recA else f2 xs n k i) = f2 xs n (k + 1) i := by
  unfold f2
  by_cases e : i = k
  · subst e
    rw [if_pos rfl, if_pos (by omega)]
    unfold ysf
    rw [if_neg h]
  · rw [if_neg e]
    by_cases h : i < k
    · rw [if_pos h, if_pos (by omega)]
    · rw [if_neg h, if_neg (by omega)]

set_option maxHeartbeats 1000000 in
theorem tallySums_any (ao : Option Addr) (n cap : Nat) (xs : List Rec) (hl : xs.length = n) (hn : n * 56 ≤ 140737488351232) (hf : ∀ i (hi : i < xs.length), (xs[i]'hi).fit) (w : World) (hT : Tabs w) (hR : RowT w ao xs) (hlt : ∀ g o, ao = some ⟨g, o, none⟩ → 0 < n → g < w.heap.size) :
    Calls Tryd.prog 8 #[.slice ao n cap] w fun r w' => r = .returned (.bool true) ∧ Below w.heap.size w w' := by
  have HT := Lib.hid hT
  have HR := Lib.hid hR
  have HL := Lib.hid hl
  have HF := Lib.hid hf
  have HLT := Lib.hid hlt
  have hmk := fun w => make_tally (n + 2) (by omega) w
  rw [show ((n + 2 : Nat) : Int) = (n : Int) + 2 from by omega] at hmk
  clear hT hR hl hf hlt
  go_enter Tryd.func8, Tryd.ntmps8
  go_wp2_with fail
  go_loopw [5] (fun i wr => ∃ k, k ≤ n + 2 ∧ i = .int .i64 (k : Nat) ∧ Hid (XRow wr (w.heap.size + 1) (n + 2) (f1 xs k)) ∧ Hid (BoxAt wr w.heap.size (-7) 0 0 ⟨#[]⟩ ⟨#[]⟩) ∧ Below w.heap.size w wr) (fun i _ => n + 2 - (intOf i).toNat)
  case atStart =>
    have h1 := xrow_made (w.alloc (.cells #[.int .i64 (-7), .int .i64 0, .int .i64 0, .string ⟨#[]⟩, .string ⟨#[]⟩] 23)) (n + 2)
    rw [World.size_alloc] at h1
    exact ⟨0, Nat.zero_le _, rfl, h1, (BoxAt.new w (-7) 0 0 ⟨#[]⟩ ⟨#[]⟩).keep ((Below.refl _ _).alloc (Nat.le_refl _) _), al (al (Below.refl _ _) _) _⟩
  case round =>
    obtain ⟨k, hk, rfl, hx, hm, hb⟩ := hrel
    by_cases hkn : k < n + 2
    · obtain ⟨m0, m1, m2, m3, m4⟩ := hm.out
      obtain ⟨e0, e1, e2, e3, e4⟩ := hx.out.1 k hkn
      have z0 := hx.out.2.1 (k * 5)
      have z1 := hx.out.2.1 (k * 5 + 1)
      have z2 := hx.out.2.1 (k * 5 + 2)
      have z3 := hx.out.2.1 (k * 5 + 3)
      have z4 := hx.out.2.1 (k * 5 + 4)
      have hkm : (k : Int) < (n : Int) + 2 := by omega
      have hk0 : (0 : Int) ≤ (k : Int) := by omega
      by_cases hlt : k < n
      · have hlx : k < xs.length := by rw [HL.out]; exact hlt
        obtain ⟨x, hxx⟩ : ∃ x, xs[k]'hlx = x := ⟨_, rfl⟩
        obtain ⟨g, o, rfl, hre⟩ := (HR.out.keep hb) k hlx
        rw [hxx] at hre
        have hgw := HLT.out g o rfl (by omega)
        have hne : ¬ (w.heap.size + 1 = g) := by omega
        obtain ⟨a0, a1, a2, a3, a4⟩ := hre
        have hki : (k : Int) < (n : Int) := by omega
        have HX := Lib.hid hxx
        clear hxx
        go_wp2_with fail
        have h1 := ((hx.out.set k hkn markR).set k hkn x).congr (fun i _ => f1_in xs k hlx x HX.out i)
        have h2 := box_other (box_other hm.out (w.heap.size + 1) (k * 5) markR (by omega)) (w.heap.size + 1) (k * 5) x (by omega)
        have h3 := set5o_below (set5o_below hb (w.heap.size + 1) (k * 5) markR (by omega)) (w.heap.size + 1) (k * 5) x (by omega)
        exact ⟨⟨k + 1, by omega, by go_num, h1, h2, h3⟩, by simp [intOf]; omega⟩
      · go_wp2_with fail
        have h1 := (hx.out.set k hkn markR).congr (fun i _ => f1_out xs k (by rw [HL.out]; exact hlt) i)
        have h2 := box_other hm.out (w.heap.size + 1) (k * 5) markR (by omega)
        have h3 := set5o_below hb (w.heap.size + 1) (k * 5) markR (by omega)
        exact ⟨⟨k + 1, by omega, by go_num, h1, h2, h3⟩, by simp [intOf]; omega⟩
    · obtain rfl : k = n + 2 := by omega
      obtain ⟨z, e, hz⟩ : ∃ z e, sumGo zeroR xs = (z, e) := ⟨_, _, rfl⟩
      have hrow := hx.out.row xs (by rw [HL.out]; omega) (fun i hi => f1_all xs (n + 2) i hi (by rw [HL.out] at hi; omega))
      have hs2 : (n : Int) ≤ (n : Int) + 2 := by omega
      have hs1 : (0 : Int) ≤ (n : Int) := by omega
      go_wp2_with fail
      (with_reducible refine (sum_any (some ⟨w.heap.size + 1, 0, none⟩) n (n + 2) xs HL.out (by omega) HF.out z e hz _ (HT.out.below hb (Nat.le_refl _)) hrow).mono ?_)
      rintro r w1 ⟨rfl, hb1⟩
      have hx := Lib.hid (hx.out.keep hb1)
      have hgx0 := hx.out.2.2
      have hm := Lib.hid (hm.out.keep hb1)
      have hb := nx hb hb1
      clear hb1 hrow
      have hal := (Below.refl w1.heap.size w1).alloc (Nat.le_refl _) (.cells #[.int .i64 z.b, .int .i64 z.c, .int .i64 z.l, .string z.h, .string z.t] 23)
      have hx := Lib.hid (hx.out.keep hal)
      have hm := Lib.hid (hm.out.keep hal)
      have hb := nx hb hal
      have B6 := Lib.hid (BoxF.new w1 z)
      have hgx1 : w.heap.size + 1 < w1.heap.size := hgx0
      have hrl := HR.out.keep hb
      clear hal
      go_wp2_with fail
      (with_reducible refine (rsum_any ao n cap xs HL.out (by omega) HF.out z e hz _ hrl).mono ?_)
      rintro r w2 ⟨rfl, hb2⟩
      have hal := (Below.refl w2.heap.size w2).alloc (Nat.le_refl _) (.cells #[.int .i64 z.b, .int .i64 z.c, .int .i64 z.l, .string z.h, .string z.t] 23)
      have hx := Lib.hid ((hx.out.keep hb2).keep hal)
      have hm := Lib.hid ((hm.out.keep hb2).keep hal)
      have B6 := Lib.hid ((B6.out.keep hb2).keep hal)
      have B8 := Lib.hid (BoxF.new w2 z)
      have hgx3 : w1.heap.size < w2.heap.size := by have := hb2.size; rw [World.size_alloc] at this; omega
      have hgx2 : w.heap.size + 1 < w2.heap.size := Nat.lt_of_lt_of_le hgx1 (by have := hb2.size; rw [World.size_alloc] at this; omega)
      have hb := nx (nx hb hb2) hal
      clear hal hb2 hrl
      go_wp2_with fail
      go_wp2_with fail
      go_wp2_with fail
      go_wp2_with fail
      go_wp2_with fail
      go_wp2_with fail
      obtain ⟨W3, hW3⟩ : ∃ W3, W3 = w2.alloc (.cells #[.int .i64 z.b, .int .i64 z.c, .int .i64 z.l, .string z.h, .string z.t] 23) := ⟨_, rfl⟩
      rw [← hW3] at hx hm B6 B8 hb ⊢
      clear hW3
      obtain ⟨p0, p1, p2, p3, p4⟩ := B6.out.1
      obtain ⟨q0, q1, q2, q3, q4⟩ := B8.out.1
      obtain ⟨m0, m1, m2, m3, m4⟩ := hm.out
      have hrn := hx.out.1 n (by omega)
      rw [f1_mark xs (n + 2) n (by rw [HL.out]; omega) (by omega)] at hrn
      have hsn := hx.out.1 (n + 1) (by omega)
      rw [f1_mark xs (n + 2) (n + 1) (by rw [HL.out]; omega) (by omega)] at hsn
      obtain ⟨r0, r1, r2, r3, r4⟩ := hrn
      obtain ⟨s0, s1, s2, s3, s4⟩ := hsn
      have hrx := hx.out.row xs (by rw [HL.out]; omega) (fun i hi => f1_all xs (n + 2) i hi (by rw [HL.out] at hi; omega))
      have hrl := HR.out.keep hb
      have HEQ := Lib.hid (eq_same (some ⟨w.heap.size + 1, 0, none⟩) ao n (n + 2) cap xs HL.out (by omega) W3.drew (hrx.keep (Below.refl _ _).drew) (hrl.keep (Below.refl _ _).drew))
      have hgd := guard_tal
      have heq1 := fun w => eq_tal z.b z.c z.l z.h z.t z.b z.c z.l z.h z.t w
      rw [show eqT z.b z.c z.l z.h z.t z.b z.c z.l z.h z.t = true from decide_eq_true ⟨rfl, rfl, rfl, rfl, rfl⟩] at heq1
      have heq2 := fun w => eq_tal (-7) 0 0 ⟨#[]⟩ ⟨#[]⟩ (-7) 0 0 ⟨#[]⟩ ⟨#[]⟩ w
      rw [show eqT (-7) 0 0 ⟨#[]⟩ ⟨#[]⟩ (-7) 0 0 ⟨#[]⟩ ⟨#[]⟩ = true from decide_eq_true ⟨rfl, rfl, rfl, rfl, rfl⟩] at heq2
      have hi1 : (n : Int) < (n : Int) + 2 := by omega
      have hi2 : (n : Int) + 1 < (n : Int) + 2 := by omega
      have hi3 : (0 : Int) ≤ (n : Int) + 1 := by omega
      have hww : IntKind.i64.wrap ((n : Int) + 1) = (n : Int) + 1 := by rw [IntKind.wrap_i64]; omega
      clear hrx hrl
      obtain ⟨i0, hi, hz0, hz1, hz2⟩ := info_parts info_tally
      go_region_held3 (fun w' => w'.cell? ⟨w1.heap.size, 0, none⟩ = some (.int .i64 z.b) ∧ w'.cell? ⟨w1.heap.size, 1, none⟩ = some (.int .i64 z.c) ∧ w'.cell? ⟨w1.heap.size, 2, none⟩ = some (.int .i64 z.l) ∧ w'.cell? ⟨w1.heap.size, 3, none⟩ = some (.string z.h) ∧ w'.cell? ⟨w1.heap.size, 4, none⟩ = some (.string z.t) ∧ w'.cell? ⟨w2.heap.size, 0, none⟩ = some (.int .i64 z.b) ∧ w'.cell? ⟨w2.heap.size, 1, none⟩ = some (.int .i64 z.c) ∧ w'.cell? ⟨w2.heap.size, 2, none⟩ = some (.int .i64 z.l) ∧ w'.cell? ⟨w2.heap.size, 3, none⟩ = some (.string z.h) ∧ w'.cell? ⟨w2.heap.size, 4, none⟩ = some (.string z.t) ∧ w'.cell? ⟨w.heap.size + 1, n * 5, none⟩ = some (.int .i64 (-7)) ∧ w'.cell? ⟨w.heap.size + 1, n * 5 + 1, none⟩ = some (.int .i64 0) ∧ w'.cell? ⟨w.heap.size + 1, n * 5 + 2, none⟩ = some (.int .i64 0) ∧ w'.cell? ⟨w.heap.size + 1, n * 5 + 3, none⟩ = some (.string ⟨#[]⟩) ∧ w'.cell? ⟨w.heap.size + 1, n * 5 + 4, none⟩ = some (.string ⟨#[]⟩) ∧ w'.cell? ⟨w.heap.size + 1, (n + 1) * 5, none⟩ = some (.int .i64 (-7)) ∧ w'.cell? ⟨w.heap.size + 1, (n + 1) * 5 + 1, none⟩ = some (.int .i64 0) ∧ w'.cell? ⟨w.heap.size + 1, (n + 1) * 5 + 2, none⟩ = some (.int .i64 0) ∧ w'.cell? ⟨w.heap.size + 1, (n + 1) * 5 + 3, none⟩ = some (.string ⟨#[]⟩) ∧ w'.cell? ⟨w.heap.size + 1, (n + 1) * 5 + 4, none⟩ = some (.string ⟨#[]⟩) ∧ w'.cell? ⟨w.heap.size, 0, none⟩ = some (.int .i64 (-7)) ∧ w'.cell? ⟨w.heap.size, 1, none⟩ = some (.int .i64 0) ∧ w'.cell? ⟨w.heap.size, 2, none⟩ = some (.int .i64 0) ∧ w'.cell? ⟨w.heap.size, 3, none⟩ = some (.string ⟨#[]⟩) ∧ w'.cell? ⟨w.heap.size, 4, none⟩ = some (.string ⟨#[]⟩) ∧ Below w.heap.size w w') (first | (with_reducible assumption) | (exact ⟨p0, p1, p2, p3, p4, q0, q1, q2, q3, q4, r0, r1, r2, r3, r4, s0, s1, s2, s3, s4, m0, m1, m2, m3, m4, hb.drew⟩) | (exact ⟨cell_keep (W := W3.drew) p0 hb', cell_keep (W := W3.drew) p1 hb', cell_keep (W := W3.drew) p2 hb', cell_keep (W := W3.drew) p3 hb', cell_keep (W := W3.drew) p4 hb', cell_keep (W := W3.drew) q0 hb', cell_keep (W := W3.drew) q1 hb', cell_keep (W := W3.drew) q2 hb', cell_keep (W := W3.drew) q3 hb', cell_keep (W := W3.drew) q4 hb', cell_keep (W := W3.drew) r0 hb', cell_keep (W := W3.drew) r1 hb', cell_keep (W := W3.drew) r2 hb', cell_keep (W := W3.drew) r3 hb', cell_keep (W := W3.drew) r4 hb', cell_keep (W := W3.drew) s0 hb', cell_keep (W := W3.drew) s1 hb', cell_keep (W := W3.drew) s2 hb', cell_keep (W := W3.drew) s3 hb', cell_keep (W := W3.drew) s4 hb', cell_keep (W := W3.drew) m0 hb', cell_keep (W := W3.drew) m1 hb', cell_keep (W := W3.drew) m2 hb', cell_keep (W := W3.drew) m3 hb', cell_keep (W := W3.drew) m4 hb', nx hb.drew hb'⟩))
        (first | (go_at_call 22; (with_reducible refine HEQ.out.mono ?_); rintro e w' ⟨rfl, hb'⟩))
      have hbw := below_undrew hb'
      have hx := Lib.hid ((hx.out.keep hbw).congr (fun i _ => show f1 xs (n + 2) i = f2 xs n 0 i from by unfold f2; rw [if_neg (by omega)]))
      have B6 := Lib.hid (B6.out.keep hbw)
      have B8 := Lib.hid (B8.out.keep hbw)
      have hb := nx hb hbw
      clear hbw hb' heq1 heq2 HEQ hi1 hi2 hi3 hww p0 p1 p2 p3 p4 q0 q1 q2 q3 q4 r0 r1 r2 r3 r4 s0 s1 s2 s3 s4 m0 m1 m2 m3 m4 hm hmk
      have hlt1 := B6.out.2.2
      have hlt2 := B8.out.2.2
      have hltx := hx.out.2.2
      go_wp2_with fail
      go_loopw [10, 11] (fun v i wr => ∃ k, k ≤ n ∧ i = .int .i64 (k : Nat) ∧ Hid (wr.ownsRow w'.heap.size 23 5 v k (rowC (ysl k))) ∧ Hid (XRow wr (w.heap.size + 1) (n + 2) (f2 xs n k)) ∧ Hid (BoxF wr w1.heap.size z ∧ BoxF wr w2.heap.size z) ∧ Below w.heap.size w wr ∧ w'.heap.size ≤ wr.heap.size) (fun _ i _ => n - (intOf i).toNat)
      case atStart => exact ⟨0, Nat.zero_le _, rfl, World.ownsRow_nil _ _ _ _, hx.out, ⟨B6.out, B8.out⟩, hb, Nat.le_refl _⟩
      case round =>
        obtain ⟨k, hk, rfl, hown, hx, hB, hb, hsz⟩ := hrel
        by_cases hkn : k < n
        · have HA := Lib.hid (rof_is (s := ⟨#[226, 128]⟩) (by decide) isA)
          have HB := Lib.hid (rof_is (s := ⟨#[169, 13]⟩) (by decide) isB)
          have hki : (k : Int) < (n : Int) + 2 := by omega
          have hki2 : (k : Int) < (n : Int) := by omega
          have hk0 : (0 : Int) ≤ (k : Int) := by omega
          go_wp2_with fail
          (with_reducible refine (HA.out _).mono ?_)
          rintro r w3 ⟨rfl, hb3⟩
          have hx := Lib.hid (hx.out.keep hb3)
          have hB1 := Lib.hid (hB.out.1.keep hb3)
          have hB2 := Lib.hid (hB.out.2.keep hb3)
          have hown := Lib.hid (owns_below hown.out hb3 (Nat.le_refl _))
          have hb := nx hb hb3
          have hsz := Nat.le_trans hsz hb3.size
          clear hb3 hB
          obtain ⟨e0, e1, e2, e3, e4⟩ := hx.out.1 k (by omega)
          have z0 := hx.out.2.1 (k * 5)
          have z1 := hx.out.2.1 (k * 5 + 1)
          have z2 := hx.out.2.1 (k * 5 + 2)
          have z3 := hx.out.2.1 (k * 5 + 3)
          have z4 := hx.out.2.1 (k * 5 + 4)
          have hgx : w.heap.size + 1 < w'.heap.size := hltx
          have hbw0 : w.heap.size ≤ w'.heap.size := by omega
          by_cases hodd : k % 2 = 1
          · have hr1 : ((k : Int).tmod 2 == 1) = true := beq_iff_eq.2 (by rw [Int.tmod_eq_emod_of_nonneg (by omega)]; omega)
            have hr2 : (((k % 2 : Nat) : Int) == 1) = true := beq_iff_eq.2 (by omega)
            have hr3 : ((k : Int) % 2 == 1) = true := beq_iff_eq.2 (by omega)
            have HV := Lib.hid (show ysf k = recB from if_pos hodd)
            have HO := Lib.hid hodd
            clear hodd
            go_wp2_with fail
            (with_reducible refine (HB.out _).mono ?_)
            rintro r w5 ⟨rfl, hb5⟩
            have hx5 := (hx.out.set k (by omega) recA).keep hb5
            have hown2 := Lib.hid (owns_set5o (owns_below (owns_set5o hown.out (w.heap.size + 1) (k * 5) recA hgx) hb5 (Nat.le_refl _)) (w.heap.size + 1) (k * 5) recB hgx)
            have HX2 := Lib.hid ((hx5.set k (by omega) recB).congr (fun i _ => f2_odd xs n k HO.out i))
            have HB1 := Lib.hid (((hB1.out.other (w.heap.size + 1) (k * 5) recA (by omega)).keep hb5).other (w.heap.size + 1) (k * 5) recB (by omega))
            have HB2 := Lib.hid (((hB2.out.other (w.heap.size + 1) (k * 5) recA (by omega)).keep hb5).other (w.heap.size + 1) (k * 5) recB (by omega))
            have hb2 := set5o_below (nx (set5o_below hb (w.heap.size + 1) (k * 5) recA (by omega)) hb5) (w.heap.size + 1) (k * 5) recB (by omega)
            have hsz : w'.heap.size ≤ w5.heap.size := Nat.le_trans hsz (by have := hb5.size; simp only [size_setCell] at this; exact this)
            obtain ⟨e0, e1, e2, e3, e4⟩ := hx5.1 k (by omega)
            have z0 := hx5.2.1 (k * 5)
            have z1 := hx5.2.1 (k * 5 + 1)
            have z2 := hx5.2.1 (k * 5 + 2)
            have z3 := hx5.2.1 (k * 5 + 3)
            have z4 := hx5.2.1 (k * 5 + 4)
            clear hx5 hb5
            go_wp2_with (at_builtin; refine wpList_append_own _ rfl _ _ 38 rfl w'.heap.size 23 i0 (.agg #[.int .i64 0, .int .i64 0, .int .i64 0, .string ⟨#[]⟩, .string ⟨#[]⟩]) 5 56 Tryd.underlying38 hi hz0 hz1 hz2 rfl (by decide) u10 _ _ rfl (hown2.out.alloc _) ⟨w5.heap.size, 0, none⟩ 1 1 (recCells recB) rfl (by simp [recCells]) (cells_new_n _ _ _ _ (by simp only [size_setCell])) (recCells_one _) (by unfold maxLen; omega) (by omega) (by simp only [World.size_alloc, size_setCell]; omega) ?_; intro v' w9 hown' hgrow _)
            have hbg := ((Below.refl w'.heap.size (set5o w5 (w.heap.size + 1) (k * 5) recB)).alloc (by rw [set5o_size]; exact hsz) (.cells #[.int .i64 2, .int .i64 2, .int .i64 1, .string ⟨#[169, 13]⟩, .string ⟨#[169, 13]⟩] 23)).grown hgrow (by rw [World.size_alloc, set5o_size]; omega) (fun q e => (hown2.out.lt q e).1)
            have hs9 := hbg.size
            rw [set5o_size] at hs9
            exact ⟨⟨k + 1, by omega, by go_num, by rw [ysl_succ, rowC_snoc, HV.out]; exact hown', HX2.out.keepB hbg hgx, ⟨HB1.out.keepB hbg hlt1, HB2.out.keepB hbg hlt2⟩, hb2.trans (hbg.mono hbw0), by omega⟩, by simp [intOf]; omega⟩
          · have hr1 : ((k : Int).tmod 2 == 1) = false := beq_eq_false_iff_ne.2 (by rw [Int.tmod_eq_emod_of_nonneg (by omega)]; omega)
            have hr2 : (((k % 2 : Nat) : Int) == 1) = false := beq_eq_false_iff_ne.2 (by omega)
            have hr3 : ((k : Int) % 2 == 1) = false := beq_eq_false_iff_ne.2 (by omega)
            have hown2 := Lib.hid (owns_set5o hown.out (w.heap.size + 1) (k * 5) recA hgx)
            have HX2 := Lib.hid ((hx.out.set k (by omega) recA).congr (fun i _ => f2_even xs n k hodd i))
            have HB1 := Lib.hid (hB1.out.other (w.heap.size + 1) (k * 5) recA (by omega))
            have HB2 := Lib.hid (hB2.out.other (w.heap.size + 1) (k * 5) recA (by omega))
            have hb2 := set5o_below hb (w.heap.size + 1) (k * 5) recA (by omega)
            have HV := Lib.hid (show ysf k = recA from if_neg hodd)
            clear hodd
            go_wp2_with (at_builtin; refine wpList_append_own _ rfl _ _ 38 rfl w'.heap.size 23 i0 (.agg #[.int .i64 0, .int .i64 0, .int .i64 0, .string ⟨#[]⟩, .string ⟨#[]⟩]) 5 56 Tryd.underlying38 hi hz0 hz1 hz2 rfl (by decide) u10 _ _ rfl (hown2.out.alloc _) ⟨w3.heap.size, 0, none⟩ 1 1 (recCells recA) rfl (by simp [recCells]) (cells_new_n _ _ _ _ (by simp only [size_setCell])) (recCells_one _) (by unfold maxLen; omega) (by omega) (by simp only [World.size_alloc, size_setCell]; omega) ?_; intro v' w9 hown' hgrow _)
            have hbg := ((Below.refl w'.heap.size (set5o w3 (w.heap.size + 1) (k * 5) recA)).alloc (by rw [set5o_size]; exact hsz) (.cells #[.int .i64 2, .int .i64 2, .int .i64 0, .string ⟨#[226, 128]⟩, .string ⟨#[226, 128]⟩] 23)).grown hgrow (by rw [World.size_alloc, set5o_size]; omega) (fun q e => (hown2.out.lt q e).1)
            have hs9 := hbg.size
            rw [set5o_size] at hs9
            exact ⟨⟨k + 1, by omega, by go_num, by rw [ysl_succ, rowC_snoc, HV.out]; exact hown', HX2.out.keepB hbg hgx, ⟨HB1.out.keepB hbg hlt1, HB2.out.keepB hbg hlt2⟩, hb2.trans (hbg.mono hbw0), by omega⟩, by simp [intOf]; omega⟩
        · obtain rfl : k = n := by omega
          have hrow := hx.out.row (ysl k) (by rw [ysl_len]; omega) (fun i hi => by rw [ysl_get]; unfold f2; rw [if_pos (by rw [ysl_len] at hi; exact hi)])
          obtain ⟨y, e2, hy⟩ : ∃ y e2, sumGo zeroR (ysl k) = (y, e2) := ⟨_, _, rfl⟩
          have hown0 : wr.ownsRow w'.heap.size 23 5 u10 (ysl k).length (rowC (ysl k)) := by rw [ysl_len]; exact hown.out
          have hs1 : (0 : Int) ≤ (k : Int) := by omega
          have hs2 : (k : Int) ≤ (k : Int) + 2 := by omega
          go_wp2_with fail
          (with_reducible refine (sum_any (some ⟨w.heap.size + 1, 0, none⟩) k (k + 2) (ysl k) (ysl_len k) (by omega) (fun i hi => by rw [ysl_get]; exact ysf_fit i) y e2 hy _ (HT.out.below hb (Nat.le_refl _)) hrow).mono ?_)
          rintro r w5 ⟨rfl, hb5⟩
          have hB1 := Lib.hid (hB.out.1.keep hb5)
          have hB2 := Lib.hid (hB.out.2.keep hb5)
          have hb := nx hb hb5
          have hown1 := owns_below hown0 hb5 (Nat.le_refl _)
          clear hb5 hB hrow hown0
          obtain ⟨p0, p1, p2, p3, p4⟩ := hB1.out.1
          have z0 := hB1.out.2.1 0
          have z1 := hB1.out.2.1 1
          have z2 := hB1.out.2.1 2
          have z3 := hB1.out.2.1 3
          have z4 := hB1.out.2.1 4
          have hq5 : w1.heap.size ≠ w2.heap.size := by omega
          have HB2 := Lib.hid (hB2.out.other w1.heap.size 0 y hq5.symm)
          have HB1 := Lib.hid (hB1.out.set y)
          have hown2 : (set5 w5 w1.heap.size y).ownsRow w'.heap.size 23 5 u10 (ysl k).length (rowC (ysl k)) := owns_set5o hown1 w1.heap.size 0 y hlt1
          obtain ⟨ao', cap', hv, hrt⟩ := rowT_owned hown2
          rw [ysl_len] at hv
          subst hv
          have hb5 := set5_below hb w1.heap.size y (by omega)
          clear hown1 hown2 hB1 hB2 hb
          unfold set5 at hrt
          go_wp2_with fail
          (with_reducible refine (rsum_any ao' k cap' (ysl k) (ysl_len k) (by omega) (fun i hi => by rw [ysl_get]; exact ysf_fit i) y e2 hy _ hrt).mono ?_)
          rintro r w6 ⟨rfl, hb6⟩
          have HB1 := Lib.hid (HB1.out.keep hb6)
          have HB2 := Lib.hid (HB2.out.keep hb6)
          have hb := nx hb5 hb6
          clear hb6 hb5 p0 p1 p2 p3 p4 z0 z1 z2 z3 z4 hrt
          obtain ⟨q0, q1, q2, q3, q4⟩ := HB2.out.1
          have z0 := HB2.out.2.1 0
          have z1 := HB2.out.2.1 1
          have z2 := HB2.out.2.1 2
          have z3 := HB2.out.2.1 3
          have z4 := HB2.out.2.1 4
          obtain ⟨p0, p1, p2, p3, p4⟩ := HB1.out.1
          have hb8 := set5_below hb w2.heap.size y (by omega)
          have hq6 : ¬ w2.heap.size = w1.heap.size := by omega
          have heq3 := fun w => eq_tal y.b y.c y.l y.h y.t y.b y.c y.l y.h y.t w
          rw [show eqT y.b y.c y.l y.h y.t y.b y.c y.l y.h y.t = true from decide_eq_true ⟨rfl, rfl, rfl, rfl, rfl⟩] at heq3
          have HTT := Lib.hid (HT.out.below hb8 (Nat.le_refl _))
          unfold set5 at HTT
          go_wp2_with fail
          (with_reducible refine (works_any _ HTT.out).mono ?_)
          rintro r w7 ⟨rfl, hb7⟩
          have hb := nx hb8 hb7
          clear hb7 hb8
          go_wp2_with fail
          go_ret
          exact ⟨rfl, hb⟩
end Go.Proofs.YtpihmbdfhhjleaaDoor
