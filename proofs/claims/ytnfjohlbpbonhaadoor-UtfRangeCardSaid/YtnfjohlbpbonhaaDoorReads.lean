/-
  The walk of the law UtfReads.
-/
import Derived.Test.YtnfjohlbpbonhaaDoorRunes
namespace Go.Proofs.YtnfjohlbpbonhaaDoor
open Go.RowKit

/-- First, the program's and the document's, in one form for every text. -/
def firstV (l : Bs) : Value := if l = [] then .tuple #[.int .i32 0, .int .i64 0, .bool false] else .tuple #[.int .i32 (Lib.decodeL l).1, .int .i64 (Lib.decodeL l).2, .bool (rightR (Lib.decodeL l).1 (Lib.decodeL l).2)]

def fR (l : Bs) : Int := if l = [] then 0 else (Lib.decodeL l).1
def fW (l : Bs) : Nat := if l = [] then 0 else (Lib.decodeL l).2
def fB (l : Bs) : Bool := if l = [] then false else rightR (Lib.decodeL l).1 (Lib.decodeL l).2
theorem bs_nil {s : ByteArray} (h : s.size = 0) : bs s = [] := List.length_eq_zero_iff.1 (by rw [← size_bs]; exact h)

theorem first_any (s : ByteArray) (w : World) (hT : Tabs w) :
    Calls Tryd.prog 15 #[.string s] w fun e w' => e = .returned (.tuple #[.int .i32 (fR (bs s)), .int .i64 (fW (bs s)), .bool (fB (bs s))]) ∧ Below w.heap.size w w' := by
  by_cases h : s.size = 0
  · unfold fR fW fB
    rw [if_pos (bs_nil h), if_pos (bs_nil h), if_pos (bs_nil h)]
    exact first_empty s h w
  · unfold fR fW fB
    rw [if_neg (bs_ne h), if_neg (bs_ne h), if_neg (bs_ne h)]
    exact first_some s _ _ h rfl rfl w hT
theorem reffirst_any (s : ByteArray) (hs : s.size ≤ 140737488351232) (w : World) :
    Calls Tryd.prog 16 #[.string s] w fun e w' => e = .returned (.tuple #[.int .i32 (fR (bs s)), .int .i64 (fW (bs s)), .bool (fB (bs s))]) ∧ Below w.heap.size w w' := by
  by_cases h : s.size = 0
  · unfold fR fW fB
    rw [if_pos (bs_nil h), if_pos (bs_nil h), if_pos (bs_nil h)]
    exact reffirst_empty s h w
  · unfold fR fW fB
    rw [if_neg (bs_ne h), if_neg (bs_ne h), if_neg (bs_ne h)]
    exact reffirst_some s hs _ _ h rfl rfl w
def lR (l : Bs) : Int := if l = [] then 0 else (lastC l).1
def lW (l : Bs) : Nat := if l = [] then 0 else (lastC l).2
def lB (l : Bs) : Bool := if l = [] then false else rightR (lastC l).1 (lastC l).2
theorem last_any (s : ByteArray) (hs : s.size ≤ 140737488351232) (w : World) (hT : Tabs w) :
    Calls Tryd.prog 17 #[.string s] w fun e w' => e = .returned (.tuple #[.int .i32 (lR (bs s)), .int .i64 (lW (bs s)), .bool (lB (bs s))]) ∧ Below w.heap.size w w' := by
  by_cases h : s.size = 0
  · unfold lR lW lB
    rw [if_pos (bs_nil h), if_pos (bs_nil h), if_pos (bs_nil h)]
    exact (last_empty s h w).mono fun _ _ ⟨a, b⟩ => ⟨a, by rw [← b]; exact Below.refl _ _⟩
  · unfold lR lW lB
    rw [if_neg (bs_ne h), if_neg (bs_ne h), if_neg (bs_ne h)]
    exact last_some s hs h w hT
theorem reflast_any (s : ByteArray) (hs : s.size ≤ 1048576) (w : World) :
    Calls Tryd.prog 18 #[.string s] w fun e w' => e = .returned (.tuple #[.int .i32 (lR (bs s)), .int .i64 (lW (bs s)), .bool (lB (bs s))]) ∧ Below w.heap.size w w' := by
  by_cases h : s.size = 0
  · unfold lR lW lB
    rw [if_pos (bs_nil h), if_pos (bs_nil h), if_pos (bs_nil h)]
    exact reflast_empty s h w
  · unfold lR lW lB
    rw [if_neg (bs_ne h), if_neg (bs_ne h), if_neg (bs_ne h)]
    exact reflast_some s hs h w

set_option maxHeartbeats 2000000 in
theorem utfReads_any (s : ByteArray) (hs : s.size ≤ 1048576) (w : World) (hT : Tabs w) :
    Calls Tryd.prog 4 #[.string s] w fun e w' => e = .returned (.bool true) ∧ Below w.heap.size w w' := by
  have hs2 : s.size ≤ 140737488351232 := by omega
  have hs3 : s.size ≤ 1099511627776 := by omega
  have HT := Lib.hid hT
  have hl := bs_len_le s
  rw [← runesZ_len] at hl
  clear hT
  go_enter Tryd.func4, Tryd.ntmps4
  go_wp2_with fail
  (with_reducible refine (first_any s _ HT.out).mono ?_)
  rintro e w1 ⟨rfl, hb⟩
  go_wp2_with fail
  (with_reducible refine (reffirst_any s hs2 _).mono ?_)
  rintro e w2 ⟨rfl, hb2⟩
  have hb := nx hb hb2
  clear hb2
  go_wp2_with fail
  (with_reducible refine (last_any s hs2 _ (HT.out.below hb (Nat.le_refl _))).mono ?_)
  rintro e w3 ⟨rfl, hb3⟩
  have hb := nx hb hb3
  clear hb3
  go_wp2_with fail
  (with_reducible refine (reflast_any s hs _).mono ?_)
  rintro e w4 ⟨rfl, hb4⟩
  have hb := nx hb hb4
  clear hb4
  go_wp2_with fail
  (with_reducible refine (count_any s hs2 _).mono ?_)
  rintro e w5 ⟨rfl, hb5⟩
  have hb := nx hb hb5
  clear hb5
  go_wp2_with fail
  (with_reducible refine (refcount_any s hs _).mono ?_)
  rintro e w6 ⟨rfl, hb6⟩
  have hb := nx hb hb6
  clear hb6
  go_wp2_with fail
  (with_reducible refine (runes_any s hs3 _).mono ?_)
  rintro e w7 ⟨v7, rfl, ho7, hb7⟩
  have hb := nx hb hb7
  clear hb7
  obtain ⟨a7, c7, rfl, hn7, hr7⟩ := ReadsI.owned ho7
  clear hn7 ho7
  go_wp2_with fail
  (with_reducible refine (refrunes_any s hs _).mono ?_)
  rintro e w8 ⟨v8, rfl, ho8, hb8⟩
  have hr7 := hr7.below hb8 (Nat.le_refl _)
  have hb := nx hb hb8
  clear hb8
  obtain ⟨a8, c8, rfl, hn8, hr8⟩ := ReadsI.owned ho8
  clear hn8 ho8
  go_wp2_with fail
  (with_reducible refine (sameRunes_any a7 a8 c7 c8 _ _ (by omega) _ hr7 hr8).mono ?_)
  rintro e w9 ⟨rfl, hb9⟩
  rw [sameZ_self]
  have hb := nx hb hb9
  clear hb9 hr7 hr8
  go_wp2_with fail
  (with_reducible refine (pending_any s hs2 _ (HT.out.below hb (Nat.le_refl _))).mono ?_)
  rintro e w10 ⟨rfl, hb10⟩
  have hb := nx hb hb10
  clear hb10
  go_wp2_with fail
  (with_reducible refine (refpending_any s hs2 _).mono ?_)
  rintro e w11 ⟨rfl, hb11⟩
  have hb := nx hb hb11
  clear hb11
  go_wp2_with fail
  (with_reducible refine (mend_any s hs3 _).mono ?_)
  rintro e w12 ⟨rfl, hb12⟩
  have hb := nx hb hb12
  clear hb12
  go_wp2_with fail
  (with_reducible refine (refmend_any s hs _).mono ?_)
  rintro e w13 ⟨rfl, hb13⟩
  have hb := nx hb hb13
  clear hb13
  go_wp2
  go_ret
  exact ⟨rfl, hb⟩
end Go.Proofs.YtnfjohlbpbonhaaDoor
