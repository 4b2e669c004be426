/-
  Move where the cursor may be: its contract.
-/
import Derived.Test.YtfoppbignompkaaDoorWhereLaw
import Derived.Test.YtfoppbignompkaaDoorNext
import Derived.Test.YtfoppbignompkaaDoorReads
import Derived.Test.YtfoppbignompkaaDoorLWhere
import Derived.Test.YtfoppbignompkaaDoorLLine
import Derived.Test.YtfoppbignompkaaDoorBackWalk
import Derived.Deep.RegionHeldLaw
import Derived.Test.YtfoppbignompkaaDoorOrder
import Derived.Deep.DeepCutAuto
import Derived.Deep.RegionWith
import Derived.Deep.DrawnRows
namespace Go.Proofs.YtfoppbignompkaaDoor
open Go.RowKit

/-- the place of a wanted column in a line, or of its last one -/
def colP (l : Bs) (k : Nat) (g : Int) : Nat := if g ≤ (countN (pieceL l (lnA l k) (lnB l k)) : Int) then lnA l k + atN (pieceL l (lnA l k) (lnB l k)) g.toNat else lnB l k
/-- where a motion leads -/
def movV (l : Bs) (p : Nat) (g : Int) : Nat → Nat
  | 1 => p - lW (l.take p)
  | 2 => p + fW (l.drop p)
  | 3 => backV l (intoM l (p : Nat))
  | 4 => nextV l (intoM l (p : Nat))
  | 5 => if lnOf l p = 0 then 0 else colP l (lnOf l p - 1) g
  | 6 => if lnOf l p + 1 = lnN l then l.length else colP l (lnOf l p + 1) g
  | 7 => lnA l (lnOf l p)
  | _ => lnB l (lnOf l p)

theorem fW_len (l : Bs) : fW l ≤ l.length := by
  unfold fW
  by_cases h : l = []
  · rw [if_pos h]; exact Nat.zero_le _
  · rw [if_neg h]
    exact wid_le l h
theorem lW_le (l : Bs) : lW l ≤ l.length := by
  unfold lW
  by_cases h : l = []
  · rw [if_pos h]; exact Nat.zero_le _
  · rw [if_neg h]
    have hne : tk l ≠ [] := by
      intro e
      have := countN_pos h
      unfold countN at this
      rw [e] at this
      simp at this
    have hs := (Cut.full l).2.2
    have hg : (tk l).getLast?.getD (65533, 1) = (tk l).getLast hne := by rw [List.getLast?_eq_some_getLast hne]; rfl
    unfold lastC
    rw [hg]
    rw [← List.dropLast_concat_getLast hne, wsum_append] at hs
    simp [wsum] at hs
    omega
theorem atN_le (l : Bs) (n : Nat) : atN l n ≤ l.length := by
  by_cases h : n ≤ countN l
  · exact (cut_at l n h).1
  · have e : atN l n = atN l (countN l) := by unfold atN countN; rw [List.take_of_length_le (by unfold countN at h; omega), List.take_of_length_le (Nat.le_refl _)]
    rw [e]
    exact (cut_at l _ (Nat.le_refl _)).1
theorem backV_le (l : Bs) : ∀ m, backV l m ≤ l.length
  | 0 => Nat.zero_le _
  | m + 1 => by
    unfold backV
    by_cases h : stopAt l m = true
    · rw [if_pos h]; exact atN_le l m
    · rw [if_neg h]; exact backV_le l m
theorem nextV_le (l : Bs) (m : Nat) : nextV l m ≤ l.length := by
  unfold nextV
  split
  · exact atN_le l _
  · exact Nat.le_refl _
theorem piece_len (l : Bs) (k : Nat) (hk : k < lnN l) : (pieceL l (lnA l k) (lnB l k)).length = lnB l k - lnA l k := by
  obtain ⟨g1, g2, _⟩ := ln_get l k hk
  unfold pieceL
  rw [List.length_take, List.length_drop]
  omega
theorem colP_le (l : Bs) (k : Nat) (g : Int) (hk : k < lnN l) : colP l k g ≤ l.length := by
  obtain ⟨g1, g2, _⟩ := ln_get l k hk
  have h := piece_len l k hk
  unfold colP
  by_cases h1 : g ≤ (countN (pieceL l (lnA l k) (lnB l k)) : Int)
  · rw [if_pos h1]
    have := atN_le (pieceL l (lnA l k) (lnB l k)) g.toNat
    omega
  · rw [if_neg h1]
    omega
theorem movV_le (l : Bs) (p : Nat) (g : Int) (m : Nat) (hp : p ≤ l.length) : movV l p g m ≤ l.length := by
  have hL := (lnOf_is l p).1
  obtain ⟨g1, g2, _⟩ := ln_get l (lnOf l p) hL
  unfold movV
  split
  · omega
  · have := fW_len (l.drop p)
    rw [List.length_drop] at this
    omega
  · exact backV_le l _
  · exact nextV_le l _
  · split
    · omega
    · exact colP_le l _ g (by omega)
  · split
    · omega
    · exact colP_le l _ g (by omega)
  · omega
  · omega
end Go.Proofs.YtfoppbignompkaaDoor

namespace Go.Proofs.YtfoppbignompkaaDoor
open Go.RowKit

theorem box3 (w : World) (T : TypeId) (a b c : Value) : (w.alloc (.cells #[a, b, c] T)).cell? ⟨w.heap.size, 0, none⟩ = some a ∧ (w.alloc (.cells #[a, b, c] T)).cell? ⟨w.heap.size, 1, none⟩ = some b ∧ (w.alloc (.cells #[a, b, c] T)).cell? ⟨w.heap.size, 2, none⟩ = some c := by
  refine ⟨?_, ?_, ?_⟩
  · have := cells_new w [a, b, c] T 0 a rfl; rwa [Addr.add_lit] at this
  · have := cells_new w [a, b, c] T 1 b rfl; rwa [Addr.add_lit] at this
  · have := cells_new w [a, b, c] T 2 c rfl; rwa [Addr.add_lit] at this
theorem ret_ib {a b : Int} {c : Bool} (h : a = b) : Ending.returned (.tuple #[.int .i64 a, .bool c]) = .returned (.tuple #[.int .i64 b, .bool c]) := by rw [h]
theorem c3_keep {W0 W W' : World} {g : Nat} {v1 v2 v3 : Value} (H : W.cell? ⟨g, 0, none⟩ = some v1 ∧ W.cell? ⟨g, 1, none⟩ = some v2 ∧ W.cell? ⟨g, 2, none⟩ = some v3 ∧ Below W0.heap.size W0 W) (hb : Below W.heap.size W W') :
    W'.cell? ⟨g, 0, none⟩ = some v1 ∧ W'.cell? ⟨g, 1, none⟩ = some v2 ∧ W'.cell? ⟨g, 2, none⟩ = some v3 ∧ Below W0.heap.size W0 W' :=
  ⟨cellKeep H.1 hb, cellKeep H.2.1 hb, cellKeep H.2.2.1 hb, nx H.2.2.2 hb⟩

theorem left_any (s : ByteArray) (hs : s.size ≤ 140737488351232) (p : Nat) (hp : p ≤ s.size) (g : Int) (w : World) (hT : Tabs w) :
    Calls Tryd.prog 67 #[.agg #[.string s, .int .i64 (p : Nat), .int .i64 g]] w fun e w' => e = .returned (.int .i64 (movV (bs s) p g 1 : Nat)) ∧ Below w.heap.size w w' := by
  have hz : (s.extract 0 p).size ≤ 140737488351232 := by rw [ByteArray.size_extract]; omega
  have HL := Lib.hid (fun w hT => last_any (s.extract 0 p) hz w hT)
  have hle := lW_le (bs (s.extract 0 p))
  rw [← size_bs, ByteArray.size_extract] at hle
  have hm : movV (bs s) p g 1 = p - lW (bs (s.extract 0 p)) := by rw [bs_take]; rfl
  obtain ⟨n, hn⟩ : ∃ n, lW (bs (s.extract 0 p)) = n := ⟨_, rfl⟩
  rw [hn] at HL hle hm
  have hnp : n ≤ p := by omega
  have HM := Lib.hid hm
  have HE := Lib.hid (show ((p - n : Nat) : Int) = (p : Int) - (n : Int) by omega)
  clear hn hle hz hm
  have HT := Lib.hid hT
  clear hT
  obtain ⟨d0, d1, d2⟩ := box3 w 79 (.string s) (.int .i64 (p : Nat)) (.int .i64 g)
  have hb0 : Below w.heap.size w (w.alloc (.cells #[.string s, .int .i64 (p : Nat), .int .i64 g] 79)) := al (Below.refl _ _) _
  have hp0 : (0 : Int) ≤ (p : Int) := by omega
  have hpi : (p : Int) ≤ (s.size : Int) := by omega
  go_enter Tryd.func67, Tryd.ntmps67
  go_wp2_with (go_at_call 85; (with_reducible refine (HL.out _ (HT.out.below hb0 (Nat.le_refl _))).mono ?_); rintro e w1 ⟨rfl, hb1⟩; have e1 := cellKeep d1 hb1)
  go_ret
  exact ⟨ret_int (a := (p : Int) - (n : Int)) (by rw [HM.out, HE.out]), nx hb0 hb1⟩
theorem right_any (s : ByteArray) (hs : s.size ≤ 140737488351232) (p : Nat) (hp : p ≤ s.size) (g : Int) (w : World) (hT : Tabs w) :
    Calls Tryd.prog 68 #[.agg #[.string s, .int .i64 (p : Nat), .int .i64 g]] w fun e w' => e = .returned (.int .i64 (movV (bs s) p g 2 : Nat)) ∧ Below w.heap.size w w' := by
  have HL := Lib.hid (fun w hT => first_any (s.extract p s.size) w hT)
  have hle := fW_len (bs (s.extract p s.size))
  rw [← size_bs, ByteArray.size_extract] at hle
  have hm : movV (bs s) p g 2 = p + fW (bs (s.extract p s.size)) := by rw [bs_drop]; rfl
  obtain ⟨n, hn⟩ : ∃ n, fW (bs (s.extract p s.size)) = n := ⟨_, rfl⟩
  rw [hn] at HL hle hm
  have hnp : p + n ≤ s.size := by omega
  have HM := Lib.hid hm
  have HE := Lib.hid (show ((p + n : Nat) : Int) = (p : Int) + (n : Int) by omega)
  clear hn hle hm
  have HT := Lib.hid hT
  clear hT
  obtain ⟨d0, d1, d2⟩ := box3 w 79 (.string s) (.int .i64 (p : Nat)) (.int .i64 g)
  have hb0 : Below w.heap.size w (w.alloc (.cells #[.string s, .int .i64 (p : Nat), .int .i64 g] 79)) := al (Below.refl _ _) _
  have hp0 : (0 : Int) ≤ (p : Int) := by omega
  have hpi : (p : Int) ≤ (s.size : Int) := by omega
  go_enter Tryd.func68, Tryd.ntmps68
  go_wp2_with (go_at_call 66; (with_reducible refine (HL.out _ (HT.out.below hb0 (Nat.le_refl _))).mono ?_); rintro e w1 ⟨rfl, hb1⟩; have e1 := cellKeep d1 hb1)
  go_ret
  exact ⟨ret_int (a := (p : Int) + (n : Int)) (by rw [HM.out, HE.out]), nx hb0 hb1⟩
theorem wordLeft_any (s : ByteArray) (hs : s.size ≤ 140737488351232) (p : Nat) (g : Int) (w : World) (hT : Tabs w) :
    Calls Tryd.prog 69 #[.agg #[.string s, .int .i64 (p : Nat), .int .i64 g]] w fun e w' => e = .returned (.int .i64 (movV (bs s) p g 3 : Nat)) ∧ Below w.heap.size w w' := by
  have HL := Lib.hid (fun w hT => kback_any s hs (p : Nat) w hT)
  have HT := Lib.hid hT
  clear hT
  obtain ⟨d0, d1, d2⟩ := box3 w 79 (.string s) (.int .i64 (p : Nat)) (.int .i64 g)
  have hb0 : Below w.heap.size w (w.alloc (.cells #[.string s, .int .i64 (p : Nat), .int .i64 g] 79)) := al (Below.refl _ _) _
  go_enter Tryd.func69, Tryd.ntmps69
  go_wp2_with (go_at_call 23; (with_reducible refine (HL.out _ (HT.out.below hb0 (Nat.le_refl _))).mono ?_); rintro e w1 ⟨rfl, hb1⟩)
  go_ret
  exact ⟨rfl, nx hb0 hb1⟩
theorem wordRight_any (s : ByteArray) (hs : s.size ≤ 140737488351232) (p : Nat) (g : Int) (w : World) (hT : Tabs w) :
    Calls Tryd.prog 70 #[.agg #[.string s, .int .i64 (p : Nat), .int .i64 g]] w fun e w' => e = .returned (.int .i64 (movV (bs s) p g 4 : Nat)) ∧ Below w.heap.size w w' := by
  have HL := Lib.hid (fun w hT => next_any s hs (p : Nat) w hT)
  have HT := Lib.hid hT
  clear hT
  obtain ⟨d0, d1, d2⟩ := box3 w 79 (.string s) (.int .i64 (p : Nat)) (.int .i64 g)
  have hb0 : Below w.heap.size w (w.alloc (.cells #[.string s, .int .i64 (p : Nat), .int .i64 g] 79)) := al (Below.refl _ _) _
  go_enter Tryd.func70, Tryd.ntmps70
  go_wp2_with (go_at_call 24; (with_reducible refine (HL.out _ (HT.out.below hb0 (Nat.le_refl _))).mono ?_); rintro e w1 ⟨rfl, hb1⟩)
  go_ret
  exact ⟨rfl, nx hb0 hb1⟩
theorem wline_any (s : ByteArray) (hs : s.size ≤ 140737488351232) (p : Nat) (hp : p ≤ s.size) (g : Int) (w : World) (hT : Tabs w) :
    Calls Tryd.prog 97 #[.agg #[.string s, .int .i64 (p : Nat), .int .i64 g]] w fun e w' => e = .returned (.int .i64 (lnOf (bs s) p : Nat)) ∧ Below w.heap.size w w' := by
  have HL := Lib.hid (fun w hT => lwhere_at s hs p hp w hT)
  have HT := Lib.hid hT
  clear hT
  obtain ⟨d0, d1, d2⟩ := box3 w 79 (.string s) (.int .i64 (p : Nat)) (.int .i64 g)
  have hb0 : Below w.heap.size w (w.alloc (.cells #[.string s, .int .i64 (p : Nat), .int .i64 g] 79)) := al (Below.refl _ _) _
  go_enter Tryd.func97, Tryd.ntmps97
  go_wp2_with (go_at_call 25; (with_reducible refine (HL.out _ (HT.out.below hb0 (Nat.le_refl _))).mono ?_); rintro e w1 ⟨rfl, hb1⟩; have t0 := (Two.new w1 45 (.int .i64 (lnOf (bs s) p : Nat)) (.int .i64 (colOf (bs s) p : Nat))).cell0)
  go_ret
  exact ⟨rfl, al (nx hb0 hb1) _⟩

theorem column_out (s : ByteArray) (hs : s.size ≤ 140737488351232) (p : Nat) (g : Int) (c : Int) (hc : c < 0 ∨ (lnN (bs s) : Int) ≤ c) (w : World) (hT : Tabs w) :
    Calls Tryd.prog 96 #[.agg #[.string s, .int .i64 (p : Nat), .int .i64 g], .int .i64 c] w fun e w' => e = .returned (.tuple #[.int .i64 0, .bool false]) ∧ Below w.heap.size w w' := by
  have HL := Lib.hid (fun w hT => lline_out s hs c hc w hT)
  clear hc
  have HT := Lib.hid hT
  clear hT
  obtain ⟨d0, d1, d2⟩ := box3 w 79 (.string s) (.int .i64 (p : Nat)) (.int .i64 g)
  have hb0 : Below w.heap.size w (w.alloc (.cells #[.string s, .int .i64 (p : Nat), .int .i64 g] 79)) := al (Below.refl _ _) _
  go_enter Tryd.func96, Tryd.ntmps96
  go_wp2_with (go_at_call 26; (with_reducible refine (HL.out _ (HT.out.below hb0 (Nat.le_refl _))).mono ?_); rintro e w1 ⟨rfl, hb1⟩)
  go_ret2
  exact ⟨rfl, al (nx hb0 hb1) _⟩

theorem c5_keep {W0 W W' : World} {g g' : Nat} {v1 v2 v3 v4 : Value} (H : W.cell? ⟨g, 0, none⟩ = some v1 ∧ W.cell? ⟨g, 2, none⟩ = some v2 ∧ W.cell? ⟨g', 0, none⟩ = some v3 ∧ W.cell? ⟨g', 1, none⟩ = some v4 ∧ Below W0.heap.size W0 W) (hb : Below W.heap.size W W') :
    W'.cell? ⟨g, 0, none⟩ = some v1 ∧ W'.cell? ⟨g, 2, none⟩ = some v2 ∧ W'.cell? ⟨g', 0, none⟩ = some v3 ∧ W'.cell? ⟨g', 1, none⟩ = some v4 ∧ Below W0.heap.size W0 W' :=
  ⟨cellKeep H.1 hb, cellKeep H.2.1 hb, cellKeep H.2.2.1 hb, cellKeep H.2.2.2.1 hb, nx H.2.2.2.2 hb⟩
set_option maxHeartbeats 1000000 in
theorem column_in (s : ByteArray) (hs : s.size ≤ 140737488351232) (p : Nat) (g : Int) (hg : 0 ≤ g) (k : Nat) (hk : k < lnN (bs s)) (w : World) (hT : Tabs w) :
    Calls Tryd.prog 96 #[.agg #[.string s, .int .i64 (p : Nat), .int .i64 g], .int .i64 (k : Nat)] w fun e w' => e = .returned (.tuple #[.int .i64 (colP (bs s) k g : Nat), .bool true]) ∧ Below w.heap.size w w' := by
  have HL := Lib.hid (fun w hT => lline_at s hs k hk w hT)
  obtain ⟨g1, g2, _⟩ := ln_get (bs s) k hk
  rw [← size_bs] at g2
  have hz : (s.extract (lnA (bs s) k) (lnB (bs s) k)).size ≤ 140737488351232 := by rw [ByteArray.size_extract]; omega
  have HAT := Lib.hid (fun w => at_any (s.extract (lnA (bs s) k) (lnB (bs s) k)) hz g w)
  have hP : bs (s.extract (lnA (bs s) k) (lnB (bs s) k)) = pieceL (bs s) (lnA (bs s) k) (lnB (bs s) k) := bs_extract _ _ _
  have hcl := colP_le (bs s) k g hk
  rw [← size_bs] at hcl
  have HCO := Lib.hid (show colP (bs s) k g = if g ≤ (countN (pieceL (bs s) (lnA (bs s) k) (lnB (bs s) k)) : Int) then lnA (bs s) k + atN (pieceL (bs s) (lnA (bs s) k) (lnB (bs s) k)) g.toNat else lnB (bs s) k from rfl)
  rw [hP] at HAT
  obtain ⟨L, hL⟩ : ∃ L, pieceL (bs s) (lnA (bs s) k) (lnB (bs s) k) = L := ⟨_, rfl⟩
  rw [hL] at HAT HCO
  clear hP hL hz hk
  obtain ⟨A, hA⟩ : ∃ A, lnA (bs s) k = A := ⟨_, rfl⟩
  obtain ⟨B, hB⟩ : ∃ A, lnB (bs s) k = A := ⟨_, rfl⟩
  obtain ⟨E, hE⟩ : ∃ A, lnE (bs s) k = A := ⟨_, rfl⟩
  rw [hA, hB] at HAT HCO
  rw [hA] at HL g1
  rw [hB] at HL g1 g2
  rw [hE] at HL g2
  clear hA hB hE
  have hBs : B ≤ s.size := by omega
  have hA0 : (0 : Int) ≤ (A : Int) := by omega
  have hAB : (A : Int) ≤ (B : Int) := by omega
  have hBi : (B : Int) ≤ (s.size : Int) := by omega
  clear g2
  have HT := Lib.hid hT
  clear hT
  obtain ⟨d0, d1, d2⟩ := box3 w 79 (.string s) (.int .i64 (p : Nat)) (.int .i64 g)
  have hb0 : Below w.heap.size w (w.alloc (.cells #[.string s, .int .i64 (p : Nat), .int .i64 g] 79)) := al (Below.refl _ _) _
  by_cases h : g ≤ (countN L : Int)
  · have ha := Lib.hid (atZ_in ⟨hg, h⟩)
    rw [ha.out] at HAT
    have hco := HCO.out
    rw [if_pos h] at hco
    obtain ⟨n, hn⟩ : ∃ n, atN L g.toNat = n := ⟨_, rfl⟩
    rw [hn] at HAT hco
    rw [hco] at hcl ⊢
    clear ha hn HCO hco h
    have hAn : A + n ≤ 140737488351232 := by omega
    have HE := Lib.hid (show ((A + n : Nat) : Int) = (A : Int) + (n : Int) by omega)
    clear hcl
    go_enter Tryd.func96, Tryd.ntmps96
    go_wp2_with (go_at_call 26; (with_reducible refine (HL.out _ (HT.out.below hb0 (Nat.le_refl _))).mono ?_); rintro e w1 ⟨rfl, hb1⟩; have t1 := Two.new w1 49 (.int .i64 (A : Nat)) (.int .i64 (B : Nat)); have hb2 := al (nx hb0 hb1) (.cells #[.int .i64 (A : Nat), .int .i64 (B : Nat)] 49); have hb3 := al hb1 (.cells #[.int .i64 (A : Nat), .int .i64 (B : Nat)] 49))
    have e0 := cellKeep d0 hb3
    have e2 := cellKeep d2 hb3
    have t0 := t1.cell0
    have t1 := t1.cell1
    obtain ⟨W, hW⟩ : ∃ W, w1.alloc (.cells #[.int .i64 (A : Nat), .int .i64 (B : Nat)] 49) = W := ⟨_, rfl⟩
    rw [hW] at hb2 e0 e2 t0 t1 ⊢
    clear hW hb3
    have hS : W.cell? ⟨w.heap.size, 0, none⟩ = some (.string s) ∧ W.cell? ⟨w.heap.size, 2, none⟩ = some (.int .i64 g) ∧ W.cell? ⟨w1.heap.size, 0, none⟩ = some (.int .i64 (A : Nat)) ∧ W.cell? ⟨w1.heap.size, 1, none⟩ = some (.int .i64 (B : Nat)) ∧ Below w.heap.size w W := ⟨e0, e2, t0, t1, hb2⟩
    go_region_held_law (fun w' => w'.cell? ⟨w.heap.size, 0, none⟩ = some (.string s) ∧ w'.cell? ⟨w.heap.size, 2, none⟩ = some (.int .i64 g) ∧ w'.cell? ⟨w1.heap.size, 0, none⟩ = some (.int .i64 (A : Nat)) ∧ w'.cell? ⟨w1.heap.size, 1, none⟩ = some (.int .i64 (B : Nat)) ∧ Below w.heap.size w w') (first | (with_reducible assumption) | (with_reducible exact c5_keep hS (Below.refl _ _).drew) | (with_reducible exact c5_keep (by assumption) (by assumption)))
      ((go_at_call 110; (with_reducible refine (HAT.out _).mono ?_); rintro e w5 ⟨rfl, hb5⟩; have hb6 := nx hb2.drew hb5; have q0 := cellKeep t0 ((Below.refl W.heap.size W).drew.trans (hb5.mono (Nat.le_refl _))); have q1 := cellKeep t1 ((Below.refl W.heap.size W).drew.trans (hb5.mono (Nat.le_refl _)))))
    go_wp2_with fail
    go_ret2
    exact ⟨ret_ib (a := (A : Int) + (n : Int)) (by rw [HE.out]), hb6⟩
  · have ha := Lib.hid (atZ_out (l := L) (c := g) (by omega))
    rw [ha.out] at HAT
    have hco := HCO.out
    rw [if_neg h] at hco
    rw [hco]
    clear ha HCO hco h hcl
    go_enter Tryd.func96, Tryd.ntmps96
    go_wp2_with (go_at_call 26; (with_reducible refine (HL.out _ (HT.out.below hb0 (Nat.le_refl _))).mono ?_); rintro e w1 ⟨rfl, hb1⟩; have t1 := Two.new w1 49 (.int .i64 (A : Nat)) (.int .i64 (B : Nat)); have hb2 := al (nx hb0 hb1) (.cells #[.int .i64 (A : Nat), .int .i64 (B : Nat)] 49); have hb3 := al hb1 (.cells #[.int .i64 (A : Nat), .int .i64 (B : Nat)] 49))
    have e0 := cellKeep d0 hb3
    have e2 := cellKeep d2 hb3
    have t0 := t1.cell0
    have t1 := t1.cell1
    obtain ⟨W, hW⟩ : ∃ W, w1.alloc (.cells #[.int .i64 (A : Nat), .int .i64 (B : Nat)] 49) = W := ⟨_, rfl⟩
    rw [hW] at hb2 e0 e2 t0 t1 ⊢
    clear hW hb3
    have hS : W.cell? ⟨w.heap.size, 0, none⟩ = some (.string s) ∧ W.cell? ⟨w.heap.size, 2, none⟩ = some (.int .i64 g) ∧ W.cell? ⟨w1.heap.size, 0, none⟩ = some (.int .i64 (A : Nat)) ∧ W.cell? ⟨w1.heap.size, 1, none⟩ = some (.int .i64 (B : Nat)) ∧ Below w.heap.size w W := ⟨e0, e2, t0, t1, hb2⟩
    go_region_held_law (fun w' => w'.cell? ⟨w.heap.size, 0, none⟩ = some (.string s) ∧ w'.cell? ⟨w.heap.size, 2, none⟩ = some (.int .i64 g) ∧ w'.cell? ⟨w1.heap.size, 0, none⟩ = some (.int .i64 (A : Nat)) ∧ w'.cell? ⟨w1.heap.size, 1, none⟩ = some (.int .i64 (B : Nat)) ∧ Below w.heap.size w w') (first | (with_reducible assumption) | (with_reducible exact c5_keep hS (Below.refl _ _).drew) | (with_reducible exact c5_keep (by assumption) (by assumption)))
      ((go_at_call 110; (with_reducible refine (HAT.out _).mono ?_); rintro e w5 ⟨rfl, hb5⟩; have hb6 := nx hb2.drew hb5; have q0 := cellKeep t0 ((Below.refl W.heap.size W).drew.trans (hb5.mono (Nat.le_refl _))); have q1 := cellKeep t1 ((Below.refl W.heap.size W).drew.trans (hb5.mono (Nat.le_refl _)))))
    go_wp2_with fail
    go_ret2
    exact ⟨rfl, hb6⟩
end Go.Proofs.YtfoppbignompkaaDoor

namespace Go.Proofs.YtfoppbignompkaaDoor
open Go.RowKit

set_option maxHeartbeats 2000000 in
theorem up_any (s : ByteArray) (hs : s.size ≤ 140737488351232) (p : Nat) (hp : p ≤ s.size) (g : Int) (hg : 0 ≤ g) (w : World) (hT : Tabs w) :
    Calls Tryd.prog 71 #[.agg #[.string s, .int .i64 (p : Nat), .int .i64 g]] w fun e w' => e = .returned (.int .i64 (movV (bs s) p g 5 : Nat)) ∧ Below w.heap.size w w' := by
  have hL := (lnOf_is (bs s) p).1
  have hN := lnN_le (bs s)
  rw [← size_bs] at hN
  have hm : movV (bs s) p g 5 = if lnOf (bs s) p = 0 then 0 else colP (bs s) (lnOf (bs s) p - 1) g := rfl
  have HCI := Lib.hid (fun k hk w hT => column_in s hs p g hg k hk w hT)
  have HCO := Lib.hid (fun c hc w hT => column_out s hs p g c hc w hT)
  have HT := Lib.hid hT
  clear hT
  obtain ⟨d0, d1, d2⟩ := box3 w 79 (.string s) (.int .i64 (p : Nat)) (.int .i64 g)
  have hb0 : Below w.heap.size w (w.alloc (.cells #[.string s, .int .i64 (p : Nat), .int .i64 g] 79)) := al (Below.refl _ _) _
  have HW := Lib.hid (fun w hT => wline_any s hs p hp g w hT)
  obtain ⟨W, hW⟩ : ∃ W, w.alloc (.cells #[.string s, .int .i64 (p : Nat), .int .i64 g] 79) = W := ⟨_, rfl⟩
  obtain ⟨L, hLn⟩ : ∃ L, lnOf (bs s) p = L := ⟨_, rfl⟩
  rw [hLn] at HW hL hm
  by_cases h0 : L = 0
  · rw [if_pos h0] at hm
    rw [hm]
    have HC := Lib.hid (fun w hT => HCO.out ((L : Int) - 1) (.inl (by omega)) w hT)
    have hL1 : L ≤ 140737488351232 := by omega
    have hwr : IntKind.i64.wrap ((L : Int) - 1) = (L : Int) - 1 := IntWalk.i64_in _ (by omega)
    clear hm HCI HCO hLn hL h0 hN
    go_enter Tryd.func71, Tryd.ntmps71
    go_wp2_with fail
    rw [hW] at d0 d1 d2 hb0
    clear hW
    have hS : W.cell? ⟨w.heap.size, 0, none⟩ = some (.string s) ∧ W.cell? ⟨w.heap.size, 1, none⟩ = some (.int .i64 (p : Nat)) ∧ W.cell? ⟨w.heap.size, 2, none⟩ = some (.int .i64 g) ∧ Below w.heap.size w W := ⟨d0, d1, d2, hb0⟩
    go_region_held_law (fun w' => w'.cell? ⟨w.heap.size, 0, none⟩ = some (.string s) ∧ w'.cell? ⟨w.heap.size, 1, none⟩ = some (.int .i64 (p : Nat)) ∧ w'.cell? ⟨w.heap.size, 2, none⟩ = some (.int .i64 g) ∧ Below w.heap.size w w') (first | (with_reducible assumption) | (with_reducible exact c3_keep hS (Below.refl _ _).drew) | (with_reducible exact c3_keep (by assumption) (by assumption)))
      (first
        | (go_at_call 97; (with_reducible refine (HW.out _ (HT.out.below hb0.drew (Nat.le_refl _))).mono ?_); rintro e w5 ⟨rfl, hb5⟩; have hS5 := c3_keep hS ((Below.refl W.heap.size W).drew.trans (hb5.mono (Nat.le_refl _))); have hb6 := nx hb0.drew hb5)
        | (go_at_call 96; (with_reducible refine (HC.out _ (HT.out.below hb6 (Nat.le_refl _))).mono ?_); rintro e w7 ⟨rfl, hb7⟩; have hS7 := c3_keep hS5 hb7; have hb8 := nx hb6 hb7))
    go_wp2_with fail
    go_ret
    exact ⟨rfl, hb8⟩
  · rw [if_neg h0] at hm
    rw [hm]
    have HC := Lib.hid (fun w hT => HCI.out (L - 1) (by omega) w hT)
    rw [show ((L - 1 : Nat) : Int) = (L : Int) - 1 by omega] at HC
    have hwr : IntKind.i64.wrap ((L : Int) - 1) = (L : Int) - 1 := IntWalk.i64_in _ (by omega)
    clear hm HCI HCO hLn hL h0 hN
    go_enter Tryd.func71, Tryd.ntmps71
    go_wp2_with fail
    rw [hW] at d0 d1 d2 hb0
    clear hW
    have hS : W.cell? ⟨w.heap.size, 0, none⟩ = some (.string s) ∧ W.cell? ⟨w.heap.size, 1, none⟩ = some (.int .i64 (p : Nat)) ∧ W.cell? ⟨w.heap.size, 2, none⟩ = some (.int .i64 g) ∧ Below w.heap.size w W := ⟨d0, d1, d2, hb0⟩
    go_region_held_law (fun w' => w'.cell? ⟨w.heap.size, 0, none⟩ = some (.string s) ∧ w'.cell? ⟨w.heap.size, 1, none⟩ = some (.int .i64 (p : Nat)) ∧ w'.cell? ⟨w.heap.size, 2, none⟩ = some (.int .i64 g) ∧ Below w.heap.size w w') (first | (with_reducible assumption) | (with_reducible exact c3_keep hS (Below.refl _ _).drew) | (with_reducible exact c3_keep (by assumption) (by assumption)))
      (first
        | (go_at_call 97; (with_reducible refine (HW.out _ (HT.out.below hb0.drew (Nat.le_refl _))).mono ?_); rintro e w5 ⟨rfl, hb5⟩; have hS5 := c3_keep hS ((Below.refl W.heap.size W).drew.trans (hb5.mono (Nat.le_refl _))); have hb6 := nx hb0.drew hb5)
        | (go_at_call 96; (with_reducible refine (HC.out _ (HT.out.below hb6 (Nat.le_refl _))).mono ?_); rintro e w7 ⟨rfl, hb7⟩; have hS7 := c3_keep hS5 hb7; have hb8 := nx hb6 hb7))
    go_wp2_with fail
    go_ret
    exact ⟨rfl, hb8⟩

set_option maxHeartbeats 2000000 in
theorem down_any (s : ByteArray) (hs : s.size ≤ 140737488351232) (p : Nat) (hp : p ≤ s.size) (g : Int) (hg : 0 ≤ g) (w : World) (hT : Tabs w) :
    Calls Tryd.prog 72 #[.agg #[.string s, .int .i64 (p : Nat), .int .i64 g]] w fun e w' => e = .returned (.int .i64 (movV (bs s) p g 6 : Nat)) ∧ Below w.heap.size w w' := by
  have hL := (lnOf_is (bs s) p).1
  have hN := lnN_le (bs s)
  rw [← size_bs] at hN
  have hm : movV (bs s) p g 6 = if lnOf (bs s) p + 1 = lnN (bs s) then s.size else colP (bs s) (lnOf (bs s) p + 1) g := by rw [size_bs]; rfl
  have HCI := Lib.hid (fun k hk w hT => column_in s hs p g hg k hk w hT)
  have HCO := Lib.hid (fun c hc w hT => column_out s hs p g c hc w hT)
  have HT := Lib.hid hT
  clear hT
  obtain ⟨d0, d1, d2⟩ := box3 w 79 (.string s) (.int .i64 (p : Nat)) (.int .i64 g)
  have hb0 : Below w.heap.size w (w.alloc (.cells #[.string s, .int .i64 (p : Nat), .int .i64 g] 79)) := al (Below.refl _ _) _
  have HW := Lib.hid (fun w hT => wline_any s hs p hp g w hT)
  obtain ⟨W, hW⟩ : ∃ W, w.alloc (.cells #[.string s, .int .i64 (p : Nat), .int .i64 g] 79) = W := ⟨_, rfl⟩
  obtain ⟨L, hLn⟩ : ∃ L, lnOf (bs s) p = L := ⟨_, rfl⟩
  rw [hLn] at HW hL hm
  have hwr : IntKind.i64.wrap ((L : Int) + 1) = (L : Int) + 1 := IntWalk.i64_in _ (by omega)
  rw [hW] at d0 d1 d2 hb0
  by_cases h0 : L + 1 = lnN (bs s)
  · rw [if_pos h0] at hm
    rw [hm]
    have HC := Lib.hid (fun w hT => HCO.out ((L : Int) + 1) (.inr (by omega)) w hT)
    clear hm HCI HCO hLn hL h0 hN
    go_enter Tryd.func72, Tryd.ntmps72
    go_wp2_with fail
    clear hW
    have hS : W.cell? ⟨w.heap.size, 0, none⟩ = some (.string s) ∧ W.cell? ⟨w.heap.size, 1, none⟩ = some (.int .i64 (p : Nat)) ∧ W.cell? ⟨w.heap.size, 2, none⟩ = some (.int .i64 g) ∧ Below w.heap.size w W := ⟨d0, d1, d2, hb0⟩
    go_region_held_law (fun w' => w'.cell? ⟨w.heap.size, 0, none⟩ = some (.string s) ∧ w'.cell? ⟨w.heap.size, 1, none⟩ = some (.int .i64 (p : Nat)) ∧ w'.cell? ⟨w.heap.size, 2, none⟩ = some (.int .i64 g) ∧ Below w.heap.size w w') (first | (with_reducible assumption) | (with_reducible exact c3_keep hS (Below.refl _ _).drew) | (with_reducible exact c3_keep (by assumption) (by assumption)))
      (first
        | (go_at_call 97; (with_reducible refine (HW.out _ (HT.out.below hb0.drew (Nat.le_refl _))).mono ?_); rintro e w5 ⟨rfl, hb5⟩; have hS5 := c3_keep hS ((Below.refl W.heap.size W).drew.trans (hb5.mono (Nat.le_refl _))); have hb6 := nx hb0.drew hb5)
        | (go_at_call 96; (with_reducible refine (HC.out _ (HT.out.below hb6 (Nat.le_refl _))).mono ?_); rintro e w7 ⟨rfl, hb7⟩; have hS7 := c3_keep hS5 hb7; have hb8 := nx hb6 hb7))
    have e0 := hS7.1
    go_wp2_with fail
    go_ret
    exact ⟨rfl, hb8⟩
  · rw [if_neg h0] at hm
    rw [hm]
    have HC := Lib.hid (fun w hT => HCI.out (L + 1) (by omega) w hT)
    rw [show ((L + 1 : Nat) : Int) = (L : Int) + 1 by omega] at HC
    clear hm HCI HCO hLn hL h0 hN
    go_enter Tryd.func72, Tryd.ntmps72
    go_wp2_with fail
    clear hW
    have hS : W.cell? ⟨w.heap.size, 0, none⟩ = some (.string s) ∧ W.cell? ⟨w.heap.size, 1, none⟩ = some (.int .i64 (p : Nat)) ∧ W.cell? ⟨w.heap.size, 2, none⟩ = some (.int .i64 g) ∧ Below w.heap.size w W := ⟨d0, d1, d2, hb0⟩
    go_region_held_law (fun w' => w'.cell? ⟨w.heap.size, 0, none⟩ = some (.string s) ∧ w'.cell? ⟨w.heap.size, 1, none⟩ = some (.int .i64 (p : Nat)) ∧ w'.cell? ⟨w.heap.size, 2, none⟩ = some (.int .i64 g) ∧ Below w.heap.size w w') (first | (with_reducible assumption) | (with_reducible exact c3_keep hS (Below.refl _ _).drew) | (with_reducible exact c3_keep (by assumption) (by assumption)))
      (first
        | (go_at_call 97; (with_reducible refine (HW.out _ (HT.out.below hb0.drew (Nat.le_refl _))).mono ?_); rintro e w5 ⟨rfl, hb5⟩; have hS5 := c3_keep hS ((Below.refl W.heap.size W).drew.trans (hb5.mono (Nat.le_refl _))); have hb6 := nx hb0.drew hb5)
        | (go_at_call 96; (with_reducible refine (HC.out _ (HT.out.below hb6 (Nat.le_refl _))).mono ?_); rintro e w7 ⟨rfl, hb7⟩; have hS7 := c3_keep hS5 hb7; have hb8 := nx hb6 hb7))
    go_wp2_with fail
    go_ret
    exact ⟨rfl, hb8⟩
theorem Two.below {W W' : World} {B : Nat} {t : TypeId} {x y : Value} (h : Two W B t x y) (hb : Below W.heap.size W W') : Two W' B t x y := (hb.block _ h.lt).trans h
theorem c3_set {W0 W : World} {g p : Nat} {v1 v2 v3 a b : Value} (H : W.cell? ⟨g, 0, none⟩ = some v1 ∧ W.cell? ⟨g, 1, none⟩ = some v2 ∧ W.cell? ⟨g, 2, none⟩ = some v3 ∧ Below W0.heap.size W0 W) (hp : p ≠ g) (h0 : W0.heap.size ≤ p) :
    ((W.setCell ⟨p, 0, none⟩ a).setCell ⟨p, 1, none⟩ b).cell? ⟨g, 0, none⟩ = some v1 ∧ ((W.setCell ⟨p, 0, none⟩ a).setCell ⟨p, 1, none⟩ b).cell? ⟨g, 1, none⟩ = some v2 ∧ ((W.setCell ⟨p, 0, none⟩ a).setCell ⟨p, 1, none⟩ b).cell? ⟨g, 2, none⟩ = some v3 ∧ Below W0.heap.size W0 ((W.setCell ⟨p, 0, none⟩ a).setCell ⟨p, 1, none⟩ b) := by
  have k : ∀ (i : Nat) (v : Value), W.cell? ⟨g, i, none⟩ = some v → ((W.setCell ⟨p, 0, none⟩ a).setCell ⟨p, 1, none⟩ b).cell? ⟨g, i, none⟩ = some v := fun i v h =>
    (grownBy_set _ p 1 b).cell ((grownBy_set W p 0 a).cell h (fun e => hp (by cases e; rfl))) (fun e => hp (by cases e; rfl))
  exact ⟨k 0 v1 H.1, k 1 v2 H.2.1, k 2 v3 H.2.2.1, (H.2.2.2.setCell (p := ⟨p, 0, none⟩) h0 _).setCell (p := ⟨p, 1, none⟩) h0 _⟩

set_option maxHeartbeats 4000000 in
theorem start_any (s : ByteArray) (hs : s.size ≤ 140737488351232) (p : Nat) (hp : p ≤ s.size) (g : Int) (w : World) (hT : Tabs w) :
    Calls Tryd.prog 73 #[.agg #[.string s, .int .i64 (p : Nat), .int .i64 g]] w fun e w' => e = .returned (.int .i64 (movV (bs s) p g 7 : Nat)) ∧ Below w.heap.size w w' := by
  rw [show movV (bs s) p g 7 = lnA (bs s) (lnOf (bs s) p) from rfl]
  have hL := (lnOf_is (bs s) p).1
  have HC := Lib.hid (fun w hT => lline_at s hs (lnOf (bs s) p) hL w hT)
  have HT := Lib.hid hT
  clear hT
  obtain ⟨d0, d1, d2⟩ := box3 w 79 (.string s) (.int .i64 (p : Nat)) (.int .i64 g)
  have hb0 : Below w.heap.size w (w.alloc (.cells #[.string s, .int .i64 (p : Nat), .int .i64 g] 79)) := al (Below.refl _ _) _
  have HW := Lib.hid (fun w hT => wline_any s hs p hp g w hT)
  obtain ⟨W, hW⟩ : ∃ W, w.alloc (.cells #[.string s, .int .i64 (p : Nat), .int .i64 g] 79) = W := ⟨_, rfl⟩
  rw [hW] at d0 d1 d2 hb0
  obtain ⟨L, hLn⟩ : ∃ L, lnOf (bs s) p = L := ⟨_, rfl⟩
  rw [hLn] at HC HW ⊢
  clear hL hLn
  obtain ⟨A, hA⟩ : ∃ A, lnA (bs s) L = A := ⟨_, rfl⟩
  obtain ⟨B, hB⟩ : ∃ A, lnB (bs s) L = A := ⟨_, rfl⟩
  obtain ⟨E, hE⟩ : ∃ A, lnE (bs s) L = A := ⟨_, rfl⟩
  rw [hA, hB, hE] at HC
  rw [hA]
  clear hA hB hE
  go_enter Tryd.func73, Tryd.ntmps73
  go_wp2_with fail
  clear hW
  have hS : W.cell? ⟨w.heap.size, 0, none⟩ = some (.string s) ∧ W.cell? ⟨w.heap.size, 1, none⟩ = some (.int .i64 (p : Nat)) ∧ W.cell? ⟨w.heap.size, 2, none⟩ = some (.int .i64 g) ∧ Below w.heap.size w W := ⟨d0, d1, d2, hb0⟩
  have hbA : Below w.heap.size w (W.alloc (.cells #[.int .i64 0, .int .i64 0] 49)).drew := (al hb0 _).drew
  have SA := c3_keep hS ((Below.refl W.heap.size W).alloc (Nat.le_refl _) (.cells #[.int .i64 0, .int .i64 0] 49)).drew
  have tA : Two (W.alloc (.cells #[.int .i64 0, .int .i64 0] 49)).drew W.heap.size 49 (.int .i64 0) (.int .i64 0) := Two.new W _ _ _
  have hlW : W.heap.size ≠ w.heap.size := by have := World.block_lt_of_cell? W _ d0; simp only at this; omega
  have hlW2 : w.heap.size ≤ W.heap.size := hb0.size
  go_region_held_law (fun w' => w'.cell? ⟨w.heap.size, 0, none⟩ = some (.string s) ∧ w'.cell? ⟨w.heap.size, 1, none⟩ = some (.int .i64 (p : Nat)) ∧ w'.cell? ⟨w.heap.size, 2, none⟩ = some (.int .i64 g) ∧ Below w.heap.size w w') (first | (with_reducible assumption) | (with_reducible exact SA) | (with_reducible exact c3_keep hS (Below.refl _ _).drew) | (with_reducible exact SA3) | (with_reducible exact SB3) | (with_reducible exact SCZ) | (with_reducible exact SC))
    (first
      | (go_at_call 97; (with_reducible refine (HW.out _ (HT.out.below hbA (Nat.le_refl _))).mono ?_); rintro e wa ⟨rfl, hba⟩; have hbA1 := nx hbA hba; have SA1 := c3_keep SA hba; have tA1 := tA.below hba)
      | (go_at_call 97; (with_reducible refine (HW.out _ (HT.out.below hb0.drew (Nat.le_refl _))).mono ?_); rintro e w5 ⟨rfl, hb5⟩; have hb6 := nx hb0.drew hb5; have S5 := c3_keep hS ((Below.refl W.heap.size W).drew.trans (hb5.mono (Nat.le_refl _))); have tB : Two (w5.alloc (.cells #[.int .i64 0, .int .i64 0] 49)) w5.heap.size 49 (.int .i64 0) (.int .i64 0) := Two.new w5 _ _ _; have hbB : Below w.heap.size w (w5.alloc (.cells #[.int .i64 0, .int .i64 0] 49)) := al hb6 _; have SB := c3_keep S5 ((Below.refl w5.heap.size w5).alloc (Nat.le_refl _) (.cells #[.int .i64 0, .int .i64 0] 49)); have hlB : w5.heap.size ≠ w.heap.size := by have := World.block_lt_of_cell? w5 _ S5.1; simp only at this; omega)
      | (go_at_call 26; (with_reducible refine (HC.out _ (HT.out.below hbA1 (Nat.le_refl _))).mono ?_); rintro e wb ⟨rfl, hbb⟩; have SA2 := c3_keep SA1 hbb; have tA2 := tA1.below hbb; have SA3 := c3_set (a := .int .i64 (A : Nat)) (b := .int .i64 (B : Nat)) SA2 hlW hlW2; have tA3 := (tA2.set0 (.int .i64 (A : Nat))).set1 (.int .i64 (B : Nat)); have xc0 := tA2.cell0; have xc1 := tA2.cell1; have xf0 := tA2.frozen0; have xf1 := tA2.frozen1; have yc0 := tA3.cell0; have yc1 := tA3.cell1; have hfin := SA3.2.2.2)
      | (go_at_call 26; (with_reducible refine (HC.out _ (HT.out.below hbB (Nat.le_refl _))).mono ?_); rintro e wb ⟨rfl, hbb⟩; have SB2 := c3_keep SB hbb; have tB2 := tB.below hbb; have SB3 := c3_set (a := .int .i64 (A : Nat)) (b := .int .i64 (B : Nat)) SB2 hlB hb6.size; have tB3 := (tB2.set0 (.int .i64 (A : Nat))).set1 (.int .i64 (B : Nat)); have xc0 := tB2.cell0; have xc1 := tB2.cell1; have xf0 := tB2.frozen0; have xf1 := tB2.frozen1; have yc0 := tB3.cell0; have yc1 := tB3.cell1; have hfin := SB3.2.2.2)
      | (go_at_call 26; (with_reducible refine (HC.out _ (HT.out.below hb6 (Nat.le_refl _))).mono ?_); rintro e wb ⟨rfl, hbb⟩; have SC0 := c3_keep S5 hbb; have SC := c3_keep SC0 ((Below.refl wb.heap.size wb).alloc (Nat.le_refl _) (.cells #[.int .i64 (A : Nat), .int .i64 (B : Nat)] 49)); have SCZ := c3_keep SC0 ((Below.refl wb.heap.size wb).alloc (Nat.le_refl _) (.cells #[.int .i64 0, .int .i64 0] 49)); have tC := Two.new wb 49 (.int .i64 (A : Nat)) (.int .i64 (B : Nat)); have yc0 := tC.cell0; have yc1 := tC.cell1; have hfin := SC.2.2.2))
  all_goals
    go_wp2_with fail
    go_ret
    exact ⟨rfl, hfin⟩
set_option maxHeartbeats 4000000 in
theorem end_any (s : ByteArray) (hs : s.size ≤ 140737488351232) (p : Nat) (hp : p ≤ s.size) (g : Int) (w : World) (hT : Tabs w) :
    Calls Tryd.prog 74 #[.agg #[.string s, .int .i64 (p : Nat), .int .i64 g]] w fun e w' => e = .returned (.int .i64 (movV (bs s) p g 8 : Nat)) ∧ Below w.heap.size w w' := by
  rw [show movV (bs s) p g 8 = lnB (bs s) (lnOf (bs s) p) from rfl]
  have hL := (lnOf_is (bs s) p).1
  have HC := Lib.hid (fun w hT => lline_at s hs (lnOf (bs s) p) hL w hT)
  have HT := Lib.hid hT
  clear hT
  obtain ⟨d0, d1, d2⟩ := box3 w 79 (.string s) (.int .i64 (p : Nat)) (.int .i64 g)
  have hb0 : Below w.heap.size w (w.alloc (.cells #[.string s, .int .i64 (p : Nat), .int .i64 g] 79)) := al (Below.refl _ _) _
  have HW := Lib.hid (fun w hT => wline_any s hs p hp g w hT)
  obtain ⟨W, hW⟩ : ∃ W, w.alloc (.cells #[.string s, .int .i64 (p : Nat), .int .i64 g] 79) = W := ⟨_, rfl⟩
  rw [hW] at d0 d1 d2 hb0
  obtain ⟨L, hLn⟩ : ∃ L, lnOf (bs s) p = L := ⟨_, rfl⟩
  rw [hLn] at HC HW ⊢
  clear hL hLn
  obtain ⟨A, hA⟩ : ∃ A, lnA (bs s) L = A := ⟨_, rfl⟩
  obtain ⟨B, hB⟩ : ∃ A, lnB (bs s) L = A := ⟨_, rfl⟩
  obtain ⟨E, hE⟩ : ∃ A, lnE (bs s) L = A := ⟨_, rfl⟩
  rw [hA, hB, hE] at HC
  rw [hB]
  clear hA hB hE
  go_enter Tryd.func74, Tryd.ntmps74
  go_wp2_with fail
  clear hW
  have hS : W.cell? ⟨w.heap.size, 0, none⟩ = some (.string s) ∧ W.cell? ⟨w.heap.size, 1, none⟩ = some (.int .i64 (p : Nat)) ∧ W.cell? ⟨w.heap.size, 2, none⟩ = some (.int .i64 g) ∧ Below w.heap.size w W := ⟨d0, d1, d2, hb0⟩
  have hbA : Below w.heap.size w (W.alloc (.cells #[.int .i64 0, .int .i64 0] 49)).drew := (al hb0 _).drew
  have SA := c3_keep hS ((Below.refl W.heap.size W).alloc (Nat.le_refl _) (.cells #[.int .i64 0, .int .i64 0] 49)).drew
  have tA : Two (W.alloc (.cells #[.int .i64 0, .int .i64 0] 49)).drew W.heap.size 49 (.int .i64 0) (.int .i64 0) := Two.new W _ _ _
  have hlW : W.heap.size ≠ w.heap.size := by have := World.block_lt_of_cell? W _ d0; simp only at this; omega
  have hlW2 : w.heap.size ≤ W.heap.size := hb0.size
  go_region_held_law (fun w' => w'.cell? ⟨w.heap.size, 0, none⟩ = some (.string s) ∧ w'.cell? ⟨w.heap.size, 1, none⟩ = some (.int .i64 (p : Nat)) ∧ w'.cell? ⟨w.heap.size, 2, none⟩ = some (.int .i64 g) ∧ Below w.heap.size w w') (first | (with_reducible assumption) | (with_reducible exact SA) | (with_reducible exact c3_keep hS (Below.refl _ _).drew) | (with_reducible exact SA3) | (with_reducible exact SB3) | (with_reducible exact SCZ) | (with_reducible exact SC))
    (first
      | (go_at_call 97; (with_reducible refine (HW.out _ (HT.out.below hbA (Nat.le_refl _))).mono ?_); rintro e wa ⟨rfl, hba⟩; have hbA1 := nx hbA hba; have SA1 := c3_keep SA hba; have tA1 := tA.below hba)
      | (go_at_call 97; (with_reducible refine (HW.out _ (HT.out.below hb0.drew (Nat.le_refl _))).mono ?_); rintro e w5 ⟨rfl, hb5⟩; have hb6 := nx hb0.drew hb5; have S5 := c3_keep hS ((Below.refl W.heap.size W).drew.trans (hb5.mono (Nat.le_refl _))); have tB : Two (w5.alloc (.cells #[.int .i64 0, .int .i64 0] 49)) w5.heap.size 49 (.int .i64 0) (.int .i64 0) := Two.new w5 _ _ _; have hbB : Below w.heap.size w (w5.alloc (.cells #[.int .i64 0, .int .i64 0] 49)) := al hb6 _; have SB := c3_keep S5 ((Below.refl w5.heap.size w5).alloc (Nat.le_refl _) (.cells #[.int .i64 0, .int .i64 0] 49)); have hlB : w5.heap.size ≠ w.heap.size := by have := World.block_lt_of_cell? w5 _ S5.1; simp only at this; omega)
      | (go_at_call 26; (with_reducible refine (HC.out _ (HT.out.below hbA1 (Nat.le_refl _))).mono ?_); rintro e wb ⟨rfl, hbb⟩; have SA2 := c3_keep SA1 hbb; have tA2 := tA1.below hbb; have SA3 := c3_set (a := .int .i64 (A : Nat)) (b := .int .i64 (B : Nat)) SA2 hlW hlW2; have tA3 := (tA2.set0 (.int .i64 (A : Nat))).set1 (.int .i64 (B : Nat)); have xc0 := tA2.cell0; have xc1 := tA2.cell1; have xf0 := tA2.frozen0; have xf1 := tA2.frozen1; have yc0 := tA3.cell0; have yc1 := tA3.cell1; have hfin := SA3.2.2.2)
      | (go_at_call 26; (with_reducible refine (HC.out _ (HT.out.below hbB (Nat.le_refl _))).mono ?_); rintro e wb ⟨rfl, hbb⟩; have SB2 := c3_keep SB hbb; have tB2 := tB.below hbb; have SB3 := c3_set (a := .int .i64 (A : Nat)) (b := .int .i64 (B : Nat)) SB2 hlB hb6.size; have tB3 := (tB2.set0 (.int .i64 (A : Nat))).set1 (.int .i64 (B : Nat)); have xc0 := tB2.cell0; have xc1 := tB2.cell1; have xf0 := tB2.frozen0; have xf1 := tB2.frozen1; have yc0 := tB3.cell0; have yc1 := tB3.cell1; have hfin := SB3.2.2.2)
      | (go_at_call 26; (with_reducible refine (HC.out _ (HT.out.below hb6 (Nat.le_refl _))).mono ?_); rintro e wb ⟨rfl, hbb⟩; have SC0 := c3_keep S5 hbb; have SC := c3_keep SC0 ((Below.refl wb.heap.size wb).alloc (Nat.le_refl _) (.cells #[.int .i64 (A : Nat), .int .i64 (B : Nat)] 49)); have SCZ := c3_keep SC0 ((Below.refl wb.heap.size wb).alloc (Nat.le_refl _) (.cells #[.int .i64 0, .int .i64 0] 49)); have tC := Two.new wb 49 (.int .i64 (A : Nat)) (.int .i64 (B : Nat)); have yc0 := tC.cell0; have yc1 := tC.cell1; have hfin := SC.2.2.2))
  all_goals
    go_wp2_with fail
    go_ret
    exact ⟨rfl, hfin⟩
end Go.Proofs.YtfoppbignompkaaDoor

namespace Go.Proofs.YtfoppbignompkaaDoor
open Go.RowKit

/-- a block, known whole -/
def Blk (W : World) (B : Nat) (t : TypeId) (xs : List Value) : Prop := W.heap[B]? = some (.cells xs.toArray t (0, 0))
theorem Blk.lt {W : World} {B : Nat} {t : TypeId} {xs : List Value} (h : Blk W B t xs) : B < W.heap.size := (Array.getElem?_eq_some_iff.1 h).1
theorem Blk.cell {W : World} {B : Nat} {t : TypeId} {xs : List Value} (h : Blk W B t xs) (i : Nat) {v : Value} (hi : xs[i]? = some v) : W.cell? ⟨B, i, none⟩ = some v := by
  simp [World.cell?, show W.heap[B]? = _ from h, hi]
theorem Blk.frozen {W : World} {B : Nat} {t : TypeId} {xs : List Value} (h : Blk W B t xs) (i : Nat) : W.frozen? ⟨B, i, none⟩ = false := by
  simp [World.frozen?, show W.heap[B]? = _ from h]
theorem Blk.set {W : World} {B : Nat} {t : TypeId} {xs : List Value} (h : Blk W B t xs) (i : Nat) (v : Value) : Blk (W.setCell ⟨B, i, none⟩ v) B t (xs.set i v) := by
  have := heap_setCell_same W B i xs.toArray t v h
  simpa [Blk] using this
theorem Blk.kept {W W' : World} {row : Option Nat} {B : Nat} {t : TypeId} {xs : List Value} (h : Blk W B t xs) (hg : W.grownBy W' row) (hne : some B ≠ row) : Blk W' B t xs := (hg.block B h.lt hne).trans h
theorem Blk.other {W : World} {B B' : Nat} {t : TypeId} {xs : List Value} (h : Blk W B t xs) (hne : B ≠ B') (i : Nat) (u : Value) : Blk (W.setCell ⟨B', i, none⟩ u) B t xs := h.kept (grownBy_set W B' i u) (fun e => hne (by cases e; rfl))
theorem Blk.below {W W' : World} {B : Nat} {t : TypeId} {xs : List Value} (h : Blk W B t xs) (hb : Below W.heap.size W W') : Blk W' B t xs := (hb.block _ h.lt).trans h
theorem Blk.alloc {W : World} {B : Nat} {t : TypeId} {xs : List Value} (h : Blk W B t xs) (o : Obj) : Blk (W.alloc o) B t xs := h.below ((Below.refl _ _).alloc (Nat.le_refl _) o)
theorem Blk.new (W : World) (t : TypeId) (xs : List Value) : Blk (W.alloc (.cells xs.toArray t)) W.heap.size t xs := World.alloc_heap_new W _

theorem Blk.set4 {W : World} {B : Nat} {t : TypeId} {x0 x1 x2 x3 : Value} (h : Blk W B t [x0, x1, x2, x3]) (a b c d : Value) : Blk ((((W.setCell ⟨B, 0, none⟩ a).setCell ⟨B, 1, none⟩ b).setCell ⟨B, 2, none⟩ c).setCell ⟨B, 3, none⟩ d) B t [a, b, c, d] :=
  (((h.set 0 a).set 1 b).set 2 c).set 3 d
theorem Blk.other4 {W : World} {B B' : Nat} {t : TypeId} {xs : List Value} (h : Blk W B t xs) (hne : B ≠ B') (a b c d : Value) : Blk ((((W.setCell ⟨B', 0, none⟩ a).setCell ⟨B', 1, none⟩ b).setCell ⟨B', 2, none⟩ c).setCell ⟨B', 3, none⟩ d) B t xs :=
  (((h.other hne 0 a).other hne 1 b).other hne 2 c).other hne 3 d
theorem below_set4 {w W : World} (h : Below w.heap.size w W) {p : Nat} (hp : w.heap.size ≤ p) (a b c d : Value) : Below w.heap.size w ((((W.setCell ⟨p, 0, none⟩ a).setCell ⟨p, 1, none⟩ b).setCell ⟨p, 2, none⟩ c).setCell ⟨p, 3, none⟩ d) :=
  (((h.setCell (p := ⟨p, 0, none⟩) hp a).setCell (p := ⟨p, 1, none⟩) hp b).setCell (p := ⟨p, 2, none⟩) hp c).setCell (p := ⟨p, 3, none⟩) hp d

theorem motions_any (w : World) : Calls Tryd.prog 47 #[] w fun e w' => e = .returned (.slice (some ⟨w.heap.size, 0, none⟩) 9 9) ∧ w' = w.alloc (.cells #[.nilFunc, .func (.func 67) #[] #[], .func (.func 68) #[] #[], .func (.func 69) #[] #[], .func (.func 70) #[] #[], .func (.func 71) #[] #[], .func (.func 72) #[] #[], .func (.func 73) #[] #[], .func (.func 74) #[] #[]] 75) := by
  go_enter Tryd.func47, Tryd.ntmps47
  go_wp2_with fail
  go_ret
  exact ⟨rfl, rfl⟩
theorem clow_any (i a b g : Int) (lo : Bool) (hlo : lo = decide (a < 0 ∨ b < 0 ∨ g < 0)) (w : World) : Calls Tryd.prog 45 #[.agg #[.int .u32 i, .int .i64 a, .int .i64 b, .int .i64 g]] w fun e w' => e = .returned (.bool lo) ∧ Below w.heap.size w w' := by
  have hB := Blk.new w 36 [.int .u32 i, .int .i64 a, .int .i64 b, .int .i64 g]
  have d1 := hB.cell 1 rfl
  have d2 := hB.cell 2 rfl
  have d3 := hB.cell 3 rfl
  have HL := Lib.hid hlo
  clear hB hlo
  go_enter Tryd.func45, Tryd.ntmps45
  go_wp2_with fail
  all_goals
    go_ret
    exact ⟨ret_bool (by rw [HL.out, decide_eq_decide]; omega), al (Below.refl _ _) _⟩

/-- a cursor -/
abbrev curV (i a b g : Int) : Value := .agg #[.int .u32 i, .int .i64 a, .int .i64 b, .int .i64 g]
theorem move_arg (s : ByteArray) (i a b g m : Int) (k : Bool) (hm : m < 1 ∨ 8 < m) (w : World) :
    Calls Tryd.prog 20 #[.string s, curV i a b g, .int .i64 m, .bool k] w fun e w' => e = .returned (.tuple #[curV 0 0 0 0, .int .i64 2]) ∧ Below w.heap.size w w' := by
  go_enter Tryd.func20, Tryd.ntmps20
  have hz := (Blk.new (w.alloc (.cells #[.int .u32 i, .int .i64 a, .int .i64 b, .int .i64 g] 36)) 36 [.int .u32 0, .int .i64 0, .int .i64 0, .int .i64 0])
  rw [World.size_alloc] at hz
  have z0 := hz.cell 0 rfl
  have z1 := hz.cell 1 rfl
  have z2 := hz.cell 2 rfl
  have z3 := hz.cell 3 rfl
  clear hz
  go_wp2_with fail
  all_goals exact bodyPost_ret (v := .tuple #[curV 0 0 0 0, .int .i64 2]) (by simp [results, Tryd.results20, go_sem, z0, z1, z2, z3]) rfl ⟨rfl, al (al (Below.refl _ _) _) _⟩

theorem move_bad (s : ByteArray) (i a b g m : Int) (k : Bool) (hm : 1 ≤ m ∧ m ≤ 8) (hx : a < 0 ∨ b < 0 ∨ g < 0 ∨ (s.size : Int) < a ∨ (s.size : Int) < b) (w : World) :
    Calls Tryd.prog 20 #[.string s, curV i a b g, .int .i64 m, .bool k] w fun e w' => e = .returned (.tuple #[curV 0 0 0 0, .int .i64 200]) ∧ Below w.heap.size w w' := by
  obtain ⟨hm1, hm2⟩ := hm
  have hc0 := (Blk.new w 36 [.int .u32 i, .int .i64 a, .int .i64 b, .int .i64 g]).alloc (.cells #[.int .u32 0, .int .i64 0, .int .i64 0, .int .i64 0] 36)
  have hz := (Blk.new (w.alloc (.cells #[.int .u32 i, .int .i64 a, .int .i64 b, .int .i64 g] 36)) 36 [.int .u32 0, .int .i64 0, .int .i64 0, .int .i64 0])
  have hb0 : Below w.heap.size w _ := al (al (Below.refl _ _) (.cells #[.int .u32 i, .int .i64 a, .int .i64 b, .int .i64 g] 36)) (.cells #[.int .u32 0, .int .i64 0, .int .i64 0, .int .i64 0] 36)
  rw [World.size_alloc] at hz
  obtain ⟨W, hW⟩ : ∃ W, (w.alloc (.cells #[.int .u32 i, .int .i64 a, .int .i64 b, .int .i64 g] 36)).alloc (.cells #[.int .u32 0, .int .i64 0, .int .i64 0, .int .i64 0] 36) = W := ⟨_, rfl⟩
  replace hc0 : Blk W w.heap.size 36 [.int .u32 i, .int .i64 a, .int .i64 b, .int .i64 g] := hW ▸ hc0
  replace hz : Blk W (w.heap.size + 1) 36 [.int .u32 0, .int .i64 0, .int .i64 0, .int .i64 0] := hW ▸ hz
  replace hb0 : Below w.heap.size w W := hW ▸ hb0
  have c0 := hc0.cell 0 rfl
  have c1 := hc0.cell 1 rfl
  have c2 := hc0.cell 2 rfl
  have c3 := hc0.cell 3 rfl
  have hd1 : decide (m < 1) = false := decide_eq_false (by omega)
  have hd2 : decide (8 < m) = false := decide_eq_false (by omega)
  obtain ⟨lo, hlo⟩ : ∃ lo, lo = decide (a < 0 ∨ b < 0 ∨ g < 0) := ⟨_, rfl⟩
  have HL := Lib.hid (fun w => clow_any i a b g lo hlo w)
  cases lo
  · have hl := of_decide_eq_false hlo.symm
    have h1 : 0 ≤ a := by omega
    have h2 : 0 ≤ b := by omega
    have h3 : (s.size : Int) < a ∨ (s.size : Int) < b := by omega
    clear hl hx hlo
    go_enter Tryd.func20, Tryd.ntmps20
    go_wp2_with (go_at_call 45; (with_reducible refine (HL.out _).mono ?_); rintro e w1 ⟨rfl, hb1⟩; have hz1 := hz.below hb1; have hc1 := hc0.below hb1; have e1 := hc1.cell 1 rfl; have e2 := hc1.cell 2 rfl; have z0 := hz1.cell 0 rfl; have z1 := hz1.cell 1 rfl; have z2 := hz1.cell 2 rfl; have z3 := hz1.cell 3 rfl; have f0 := hz1.frozen 0; have f1 := hz1.frozen 1; have f2 := hz1.frozen 2; have f3 := hz1.frozen 3)
    all_goals
      have hy := hz1.set4 (.int .u32 0) (.int .i64 0) (.int .i64 0) (.int .i64 0)
      have y0 := hy.cell 0 rfl
      have y1 := hy.cell 1 rfl
      have y2 := hy.cell 2 rfl
      have y3 := hy.cell 3 rfl
      first | (exfalso; omega) | exact bodyPost_ret (v := .tuple #[curV 0 0 0 0, .int .i64 200]) (by simp [results, Tryd.results20, go_sem, y0, y1, y2, y3]) rfl ⟨rfl, below_set4 (nx hb0 hb1) (Nat.le_succ _) _ _ _ _⟩
  · clear hx hlo
    go_enter Tryd.func20, Tryd.ntmps20
    go_wp2_with (go_at_call 45; (with_reducible refine (HL.out _).mono ?_); rintro e w1 ⟨rfl, hb1⟩; have hz1 := hz.below hb1; have z0 := hz1.cell 0 rfl; have z1 := hz1.cell 1 rfl; have z2 := hz1.cell 2 rfl; have z3 := hz1.cell 3 rfl; have f0 := hz1.frozen 0; have f1 := hz1.frozen 1; have f2 := hz1.frozen 2; have f3 := hz1.frozen 3)
    have hy := hz1.set4 (.int .u32 0) (.int .i64 0) (.int .i64 0) (.int .i64 0)
    have y0 := hy.cell 0 rfl
    have y1 := hy.cell 1 rfl
    have y2 := hy.cell 2 rfl
    have y3 := hy.cell 3 rfl
    exact bodyPost_ret (v := .tuple #[curV 0 0 0 0, .int .i64 200]) (by simp [results, Tryd.results20, go_sem, y0, y1, y2, y3]) rfl ⟨rfl, below_set4 (nx hb0 hb1) (Nat.le_succ _) _ _ _ _⟩

/-- what a motion's function does -/
theorem mot_any (s : ByteArray) (hs : s.size ≤ 140737488351232) (g : Int) (hg : 0 ≤ g) (m : Nat) (h1 : 1 ≤ m) (h8 : m ≤ 8) :
    ∃ F, ([.nilFunc, .func (.func 67) #[] #[], .func (.func 68) #[] #[], .func (.func 69) #[] #[], .func (.func 70) #[] #[], .func (.func 71) #[] #[], .func (.func 72) #[] #[], .func (.func 73) #[] #[], .func (.func 74) #[] #[]] : List Value)[m]? = some (.func (.func F) #[] #[]) ∧ (∀ (xs : Array Value) (w : World), (callFunc F xs).run Tryd.prog w = .ok (.enter F xs) w) ∧
      ∀ p : Nat, p ≤ s.size → ∀ w, Tabs w → Calls Tryd.prog F #[.agg #[.string s, .int .i64 (p : Nat), .int .i64 g]] w fun e w' => e = .returned (.int .i64 (movV (bs s) p g m : Nat)) ∧ Below w.heap.size w w' := by
  match m, h1, h8 with
  | 1, _, _ => exact ⟨_, rfl, fun _ _ => by kernel_rfl, fun p hp w hT => left_any s hs p hp g w hT⟩
  | 2, _, _ => exact ⟨_, rfl, fun _ _ => by kernel_rfl, fun p hp w hT => right_any s hs p hp g w hT⟩
  | 3, _, _ => exact ⟨_, rfl, fun _ _ => by kernel_rfl, fun p hp w hT => wordLeft_any s hs p g w hT⟩
  | 4, _, _ => exact ⟨_, rfl, fun _ _ => by kernel_rfl, fun p hp w hT => wordRight_any s hs p g w hT⟩
  | 5, _, _ => exact ⟨_, rfl, fun _ _ => by kernel_rfl, fun p hp w hT => up_any s hs p hp g hg w hT⟩
  | 6, _, _ => exact ⟨_, rfl, fun _ _ => by kernel_rfl, fun p hp w hT => down_any s hs p hp g hg w hT⟩
  | 7, _, _ => exact ⟨_, rfl, fun _ _ => by kernel_rfl, fun p hp w hT => start_any s hs p hp g w hT⟩
  | 8, _, _ => exact ⟨_, rfl, fun _ _ => by kernel_rfl, fun p hp w hT => end_any s hs p hp g w hT⟩
end Go.Proofs.YtfoppbignompkaaDoor

namespace Go.Proofs.YtfoppbignompkaaDoor
open Go.RowKit
attribute [local go_sem ↓] Go.wp_at_zero Go.wp_at_succ

/-- what stands when the motion has been made -/
structure Moved (w W : World) (i b g q : Int) : Prop where
  c : Blk W w.heap.size 36 [.int .u32 i, .int .i64 q, .int .i64 b, .int .i64 g]
  z : Blk W (w.heap.size + 1) 36 [.int .u32 0, .int .i64 0, .int .i64 0, .int .i64 0]
  b : Below w.heap.size w W
theorem Moved.below {w W W' : World} {i b g q : Int} (h : Moved w W i b g q) (hb : Below W.heap.size W W') : Moved w W' i b g q := ⟨h.c.below hb, h.z.below hb, nx h.b hb⟩
theorem Moved.set {w W : World} {i b g q : Int} (h : Moved w W i b g q) (q' : Int) : Moved w (W.setCell ⟨w.heap.size, 1, none⟩ (.int .i64 q')) i b g q' :=
  ⟨h.c.set 1 (.int .i64 q'), h.z.other (by omega) 1 _, h.b.setCell (p := ⟨w.heap.size, 1, none⟩) (Nat.le_refl _) _⟩
theorem Moved.set2 {w W : World} {i b g q : Int} (h : Moved w W i b g q) (b' : Int) : Moved w (W.setCell ⟨w.heap.size, 2, none⟩ (.int .i64 b')) i b' g q :=
  ⟨h.c.set 2 (.int .i64 b'), h.z.other (by omega) 2 _, h.b.setCell (p := ⟨w.heap.size, 2, none⟩) (Nat.le_refl _) _⟩
theorem Moved.set3 {w W : World} {i b g q : Int} (h : Moved w W i b g q) (g' : Int) : Moved w (W.setCell ⟨w.heap.size, 3, none⟩ (.int .i64 g')) i b g' q :=
  ⟨h.c.set 3 (.int .i64 g'), h.z.other (by omega) 3 _, h.b.setCell (p := ⟨w.heap.size, 3, none⟩) (Nat.le_refl _) _⟩

theorem Moved.store {w V : World} {i b g q : Int} (h : Moved w V i b g q) :
    ((((V.setCell ⟨w.heap.size + 1, 0, none⟩ (.int .u32 i)).setCell ⟨w.heap.size + 1, 1, none⟩ (.int .i64 q)).setCell ⟨w.heap.size + 1, 2, none⟩ (.int .i64 b)).setCell ⟨w.heap.size + 1, 3, none⟩ (.int .i64 g)).cell? ⟨w.heap.size + 1, 0, none⟩ = some (.int .u32 i) ∧
    ((((V.setCell ⟨w.heap.size + 1, 0, none⟩ (.int .u32 i)).setCell ⟨w.heap.size + 1, 1, none⟩ (.int .i64 q)).setCell ⟨w.heap.size + 1, 2, none⟩ (.int .i64 b)).setCell ⟨w.heap.size + 1, 3, none⟩ (.int .i64 g)).cell? ⟨w.heap.size + 1, 1, none⟩ = some (.int .i64 q) ∧
    ((((V.setCell ⟨w.heap.size + 1, 0, none⟩ (.int .u32 i)).setCell ⟨w.heap.size + 1, 1, none⟩ (.int .i64 q)).setCell ⟨w.heap.size + 1, 2, none⟩ (.int .i64 b)).setCell ⟨w.heap.size + 1, 3, none⟩ (.int .i64 g)).cell? ⟨w.heap.size + 1, 2, none⟩ = some (.int .i64 b) ∧
    ((((V.setCell ⟨w.heap.size + 1, 0, none⟩ (.int .u32 i)).setCell ⟨w.heap.size + 1, 1, none⟩ (.int .i64 q)).setCell ⟨w.heap.size + 1, 2, none⟩ (.int .i64 b)).setCell ⟨w.heap.size + 1, 3, none⟩ (.int .i64 g)).cell? ⟨w.heap.size + 1, 3, none⟩ = some (.int .i64 g) ∧
    Below w.heap.size w ((((V.setCell ⟨w.heap.size + 1, 0, none⟩ (.int .u32 i)).setCell ⟨w.heap.size + 1, 1, none⟩ (.int .i64 q)).setCell ⟨w.heap.size + 1, 2, none⟩ (.int .i64 b)).setCell ⟨w.heap.size + 1, 3, none⟩ (.int .i64 g)) := by
  have hy := h.z.set4 (.int .u32 i) (.int .i64 q) (.int .i64 b) (.int .i64 g)
  exact ⟨hy.cell 0 rfl, hy.cell 1 rfl, hy.cell 2 rfl, hy.cell 3 rfl, below_set4 h.b (Nat.le_succ _) _ _ _ _⟩
theorem motions_blk (w : World) : Calls Tryd.prog 47 #[] w fun e w' => e = .returned (.slice (some ⟨w.heap.size, 0, none⟩) 9 9) ∧ Blk w' w.heap.size 75 [.nilFunc, .func (.func 67) #[] #[], .func (.func 68) #[] #[], .func (.func 69) #[] #[], .func (.func 70) #[] #[], .func (.func 71) #[] #[], .func (.func 72) #[] #[], .func (.func 73) #[] #[], .func (.func 74) #[] #[]] ∧ Below w.heap.size w w' := by
  refine (motions_any w).mono ?_
  rintro e w' ⟨rfl, rfl⟩
  exact ⟨rfl, Blk.new w _ _, al (Below.refl _ _) _⟩
set_option maxRecDepth 100000 in
set_option maxHeartbeats 8000000 in
theorem move_ok (s : ByteArray) (hs : s.size ≤ 140737488351232) (i : Int) (a b : Nat) (g : Int) (ha : a ≤ s.size) (hb : b ≤ s.size) (hg : 0 ≤ g) (m : Nat) (hm1 : 1 ≤ m) (hm8 : m ≤ 8) (k : Bool) (q : Nat)
    (hq : q = movV (bs s) (atN (bs s) (intoM (bs s) (a : Nat))) g m) (B2 G2 : Int) (hB2 : B2 = if k = true then ((b : Nat) : Int) else ((q : Nat) : Int)) (hG2 : G2 = if m = 5 ∨ m = 6 then g else ((colOf (bs s) q : Nat) : Int)) (w : World) (hT : Tabs w) :
    Calls Tryd.prog 20 #[.string s, curV i (a : Nat) (b : Nat) g, .int .i64 (m : Nat), .bool k] w fun e w' =>
      e = .returned (.tuple #[curV i (q : Nat) B2 G2, .int .i64 0]) ∧ Below w.heap.size w w' := by
  have HB2 := Lib.hid hB2
  have HG2 := Lib.hid hG2
  clear hB2 hG2
  have HT := Lib.hid hT
  have hc0 := (Blk.new w 36 [.int .u32 i, .int .i64 (a : Nat), .int .i64 (b : Nat), .int .i64 g]).alloc (.cells #[.int .u32 0, .int .i64 0, .int .i64 0, .int .i64 0] 36)
  have hz := (Blk.new (w.alloc (.cells #[.int .u32 i, .int .i64 (a : Nat), .int .i64 (b : Nat), .int .i64 g] 36)) 36 [.int .u32 0, .int .i64 0, .int .i64 0, .int .i64 0])
  have hb0 : Below w.heap.size w _ := al (al (Below.refl _ _) (.cells #[.int .u32 i, .int .i64 (a : Nat), .int .i64 (b : Nat), .int .i64 g] 36)) (.cells #[.int .u32 0, .int .i64 0, .int .i64 0, .int .i64 0] 36)
  rw [World.size_alloc] at hz
  obtain ⟨W, hW⟩ : ∃ W, (w.alloc (.cells #[.int .u32 i, .int .i64 (a : Nat), .int .i64 (b : Nat), .int .i64 g] 36)).alloc (.cells #[.int .u32 0, .int .i64 0, .int .i64 0, .int .i64 0] 36) = W := ⟨_, rfl⟩
  replace hc0 : Blk W w.heap.size 36 [.int .u32 i, .int .i64 (a : Nat), .int .i64 (b : Nat), .int .i64 g] := hW ▸ hc0
  replace hz : Blk W (w.heap.size + 1) 36 [.int .u32 0, .int .i64 0, .int .i64 0, .int .i64 0] := hW ▸ hz
  replace hb0 : Below w.heap.size w W := hW ▸ hb0
  have c0 := hc0.cell 0 rfl
  have c1 := hc0.cell 1 rfl
  have c2 := hc0.cell 2 rfl
  have c3 := hc0.cell 3 rfl
  have M0 : Moved w W i b g a := ⟨hc0, hz, hb0⟩
  have HL := Lib.hid (fun w => clow_any i (a : Nat) (b : Nat) g false (decide_eq_false (by omega)).symm w)
  obtain ⟨-, hMq, hql, hM1, hM2⟩ := into_find (bs s) (a : Nat)
  have hcl : clampN (bs s) (a : Nat) = a := by unfold clampN; rw [← size_bs]; omega
  rw [hcl] at hMq hM2
  obtain ⟨p, hp⟩ : ∃ p, atN (bs s) (intoM (bs s) (a : Nat)) = p := ⟨_, rfl⟩
  rw [hp] at hMq hM1 hM2 hq
  have hps : p ≤ s.size := by omega
  obtain ⟨F, hF, hcf, hFc⟩ := mot_any s hs g hg m hm1 hm8
  have HFC := Lib.hid (fun w hT => hFc p hps w hT)
  have hqs : q ≤ s.size := by rw [hq, size_bs]; exact movV_le _ _ _ _ (by rw [← size_bs]; exact hps)
  rw [← hq] at HFC
  have HWH := Lib.hid (fun w hT => lwhere_at s hs q hqs w hT)
  have HM := Lib.hid (And.intro hM1 hM2)
  have hma : ¬ (s.size : Int) < ((a : Nat) : Int) := by omega
  have hmb : ¬ (s.size : Int) < ((b : Nat) : Int) := by omega
  have hai : ((a : Nat) : Int) ≤ (s.size : Int) := by omega
  have hbi : ((b : Nat) : Int) ≤ (s.size : Int) := by omega
  have hmx : decide ((s.size : Int) < max (a : Int) (b : Int)) = false := decide_eq_false (by omega)
  have hmx1 : max (a : Int) (b : Int) ≤ (s.size : Int) := by omega
  have hd1 : decide ((m : Int) < 1) = false := decide_eq_false (by omega)
  have hd2 : decide (8 < (m : Int)) = false := decide_eq_false (by omega)
  have hm0 : (0 : Int) ≤ (m : Int) := by omega
  have hm9 : (m : Int) < 9 := by omega
  obtain ⟨mx, hmxe⟩ : ∃ mx : Int, max (a : Int) (b : Int) = mx := ⟨_, rfl⟩
  have hmx2 : decide ((s.size : Int) < mx) = false := decide_eq_false (by omega)
  clear hT hc0 hz hM1 hM2 hql hcl hp hq hFc hmx hmx1
  go_enter Tryd.func20, Tryd.ntmps20
  go_wp2_with (go_at_call 45; (with_reducible refine (HL.out _).mono ?_); rintro e w1 ⟨rfl, hb1⟩; have M1 := M0.below hb1; have e1 := M1.c.cell 1 rfl; have e2 := M1.c.cell 2 rfl)
  clear HL e1 e2 c0 c1 c2 c3 hW hmxe hmx2 hd1 hd2
  go_loopw [36] (fun _ wr => ∃ q' : Nat, p ≤ q' ∧ q' ≤ a ∧ Moved w wr i b g q') (fun _ wr => (intOf ((wr.cell? ⟨w.heap.size, 1, none⟩).getD undef)).toNat)
  case atStart => exact ⟨a, hMq, Nat.le_refl _, M1⟩
  case round =>
    obtain ⟨q', h1, h2, MR⟩ := hrel
    have e1 := MR.c.cell 1 rfl
    have hbw := MR.b
    by_cases he : q' = p
    · subst he
      have HB := Lib.hid (c_begins s hs (q' : Nat) true (begB_t (by rw [← size_bs]; omega) HM.out.1))
      go_upto_region 7 with (first | (go_at_call 46; (with_reducible refine (HB.out _ (HT.out.below hbw (Nat.le_refl _))).mono ?_); rintro e w2 ⟨rfl, hb2⟩; have M2 := MR.below hb2))
      have M2d := M2.below (Below.refl w2.heap.size w2).drew
      have x1 := M2d.c.cell 1 rfl
      have x3 := M2d.c.cell 3 rfl
      go_cut [51] (fun v wx => v = .int .i64 (q : Nat) ∧ Moved w wx i b g q)
      case first =>
        go_region_with (first
            | (go_at_call 47; (with_reducible refine (motions_blk _).mono ?_); rintro e w4 ⟨rfl, hB9, hb4⟩; have hf := (show Blk w4 w2.heap.size _ _ from hB9).cell m hF; have M4 := M2d.below hb4; have v1 := M4.c.cell 1 rfl; have v3 := M4.c.cell 3 rfl; clear hB9)
            | ((with_reducible refine (HFC.out _ (HT.out.below M4.b (Nat.le_refl _))).mono ?_); rintro e w5 ⟨rfl, hb5⟩; have M5 := M4.below hb5; have M6 := M5.set (q : Nat); have u1 := M5.c.cell 1 rfl; have u3 := M5.c.cell 3 rfl; have uf := M5.c.frozen 1))
        all_goals (go_wp2_with fail; go_meet; exact ⟨rfl, M6⟩)
      case rest =>
        obtain ⟨rfl, M6⟩ := hcut
        obtain ⟨V, hV⟩ : ∃ V, wc = V := ⟨_, rfl⟩
        rw [hV] at M6 ⊢
        have hqb : q ≤ 140737488351232 := by omega
        clear hV M2 M2d x1 x3 HB MR e1 hbw hb2 hF hcf HFC M0 M1 hb0 hb1
        cases k
        · have v1 := M6.c.cell 1 rfl
          have v2 := M6.c.cell 2 rfl
          have vf := M6.c.frozen 2
          have M7 := M6.set2 (q : Nat)
          have hB2 := HB2.out
          rw [if_neg (by decide)] at hB2
          subst hB2
          by_cases h5 : m = 5 ∨ m = 6
          · have hG2 := HG2.out
            rw [if_pos h5] at hG2
            subst hG2
            have M9 := M7
            clear M6 HG2 HB2 HWH
            have n0 := M9.c.cell 0 rfl
            have n1 := M9.c.cell 1 rfl
            have n2 := M9.c.cell 2 rfl
            have n3 := M9.c.cell 3 rfl
            have z0 := M9.z.cell 0 rfl
            have z1 := M9.z.cell 1 rfl
            have z2 := M9.z.cell 2 rfl
            have z3 := M9.z.cell 3 rfl
            have f0 := M9.z.frozen 0
            have f1 := M9.z.frozen 1
            have f2 := M9.z.frozen 2
            have f3 := M9.z.frozen 3
            rcases h5 with rfl | rfl
            · go_wp2_with fail
              obtain ⟨y0, y1, y2, y3, hbF⟩ := M9.store
              refine bodyPost_ret ?_ rfl ⟨rfl, hbF⟩
              simp [results, Tryd.results20, go_sem, y0, y1, y2, y3]
            · go_wp2_with fail
              obtain ⟨y0, y1, y2, y3, hbF⟩ := M9.store
              refine bodyPost_ret ?_ rfl ⟨rfl, hbF⟩
              simp [results, Tryd.results20, go_sem, y0, y1, y2, y3]
          · have hG2 := HG2.out
            rw [if_neg h5] at hG2
            have hbw := M7.b
            have hn5 : ((m : Int) != 5) = true := bne_iff_ne.2 (by omega)
            have hn6 : ((m : Int) != 6) = true := bne_iff_ne.2 (by omega)
            have n1 := M7.c.cell 1 rfl
            obtain ⟨C, hC⟩ : ∃ C : Nat, colOf (bs s) q = C := ⟨_, rfl⟩
            rw [hC] at HWH hG2
            subst hG2
            clear h5 hC HG2 HB2
            go_wp2_with (go_at_call 25; (with_reducible refine (HWH.out _ (HT.out.below hbw (Nat.le_refl _))).mono ?_); rintro e w8 ⟨rfl, hb8⟩; have M8 := (M7.below hb8).below ((Below.refl w8.heap.size w8).alloc (Nat.le_refl _) (.cells #[.int .i64 (lnOf (bs s) q : Nat), .int .i64 (C : Nat)] 45)); have s1 := (Two.new w8 45 (.int .i64 (lnOf (bs s) q : Nat)) (.int .i64 (C : Nat))).cell1; have r3 := M8.c.cell 3 rfl; have rf3 := M8.c.frozen 3; have M9 := M8.set3 (C : Nat); have n0 := M9.c.cell 0 rfl; have n1 := M9.c.cell 1 rfl; have n2 := M9.c.cell 2 rfl; have n3 := M9.c.cell 3 rfl; have z0 := M9.z.cell 0 rfl; have z1 := M9.z.cell 1 rfl; have z2 := M9.z.cell 2 rfl; have z3 := M9.z.cell 3 rfl; have f0 := M9.z.frozen 0; have f1 := M9.z.frozen 1; have f2 := M9.z.frozen 2; have f3 := M9.z.frozen 3)
            obtain ⟨y0, y1, y2, y3, hbF⟩ := M9.store
            refine bodyPost_ret ?_ rfl ⟨rfl, hbF⟩
            simp [results, Tryd.results20, go_sem, y0, y1, y2, y3]
        · have M7 := M6
          have hB2 := HB2.out
          rw [if_pos rfl] at hB2
          subst hB2
          by_cases h5 : m = 5 ∨ m = 6
          · have hG2 := HG2.out
            rw [if_pos h5] at hG2
            subst hG2
            have M9 := M7
            clear M6 HG2 HB2 HWH
            have n0 := M9.c.cell 0 rfl
            have n1 := M9.c.cell 1 rfl
            have n2 := M9.c.cell 2 rfl
            have n3 := M9.c.cell 3 rfl
            have z0 := M9.z.cell 0 rfl
            have z1 := M9.z.cell 1 rfl
            have z2 := M9.z.cell 2 rfl
            have z3 := M9.z.cell 3 rfl
            have f0 := M9.z.frozen 0
            have f1 := M9.z.frozen 1
            have f2 := M9.z.frozen 2
            have f3 := M9.z.frozen 3
            rcases h5 with rfl | rfl
            · go_wp2_with fail
              obtain ⟨y0, y1, y2, y3, hbF⟩ := M9.store
              refine bodyPost_ret ?_ rfl ⟨rfl, hbF⟩
              simp [results, Tryd.results20, go_sem, y0, y1, y2, y3]
            · go_wp2_with fail
              obtain ⟨y0, y1, y2, y3, hbF⟩ := M9.store
              refine bodyPost_ret ?_ rfl ⟨rfl, hbF⟩
              simp [results, Tryd.results20, go_sem, y0, y1, y2, y3]
          · have hG2 := HG2.out
            rw [if_neg h5] at hG2
            have hbw := M7.b
            have hn5 : ((m : Int) != 5) = true := bne_iff_ne.2 (by omega)
            have hn6 : ((m : Int) != 6) = true := bne_iff_ne.2 (by omega)
            have n1 := M7.c.cell 1 rfl
            obtain ⟨C, hC⟩ : ∃ C : Nat, colOf (bs s) q = C := ⟨_, rfl⟩
            rw [hC] at HWH hG2
            subst hG2
            clear h5 hC HG2 HB2
            go_wp2_with (go_at_call 25; (with_reducible refine (HWH.out _ (HT.out.below hbw (Nat.le_refl _))).mono ?_); rintro e w8 ⟨rfl, hb8⟩; have M8 := (M7.below hb8).below ((Below.refl w8.heap.size w8).alloc (Nat.le_refl _) (.cells #[.int .i64 (lnOf (bs s) q : Nat), .int .i64 (C : Nat)] 45)); have s1 := (Two.new w8 45 (.int .i64 (lnOf (bs s) q : Nat)) (.int .i64 (C : Nat))).cell1; have r3 := M8.c.cell 3 rfl; have rf3 := M8.c.frozen 3; have M9 := M8.set3 (C : Nat); have n0 := M9.c.cell 0 rfl; have n1 := M9.c.cell 1 rfl; have n2 := M9.c.cell 2 rfl; have n3 := M9.c.cell 3 rfl; have z0 := M9.z.cell 0 rfl; have z1 := M9.z.cell 1 rfl; have z2 := M9.z.cell 2 rfl; have z3 := M9.z.cell 3 rfl; have f0 := M9.z.frozen 0; have f1 := M9.z.frozen 1; have f2 := M9.z.frozen 2; have f3 := M9.z.frozen 3)
            obtain ⟨y0, y1, y2, y3, hbF⟩ := M9.store
            refine bodyPost_ret ?_ rfl ⟨rfl, hbF⟩
            simp [results, Tryd.results20, go_sem, y0, y1, y2, y3]
    · have HB := Lib.hid (c_begins s hs (q' : Nat) false (begB_f (by rw [← size_bs]; omega) (HM.out.2 q' (by omega) h2)))
      have hq1 : 1 ≤ q' := by omega
      have HK := Lib.hid (show ((q' : Int) - 1) = ((q' - 1 : Nat) : Int) by omega)
      have hqb : q' ≤ 140737488351232 := by omega
      go_wp2_with (first | (go_at_call 46; (with_reducible refine (HB.out _ (HT.out.below hbw (Nat.le_refl _))).mono ?_); rintro e w2 ⟨rfl, hb2⟩; have M2 := MR.below hb2; have x1 := M2.c.cell 1 rfl; have y1 := M2.c.frozen 1))
      have M3 := M2.set ((q' : Int) - 1)
      refine ⟨⟨q' - 1, by omega, by omega, by rw [← HK.out]; exact M3⟩, ?_⟩
      rw [e1, M3.c.cell 1 rfl]
      simp [intOf]
      omega
end Go.Proofs.YtfoppbignompkaaDoor
