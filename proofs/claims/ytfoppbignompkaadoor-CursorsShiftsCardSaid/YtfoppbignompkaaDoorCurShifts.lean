/-
  The walk of CursorsShifts: every list behind every edit.
-/
import Derived.Test.YtfoppbignompkaaDoorCurKept
import Derived.Test.YtfoppbignompkaaDoorCurApart2
import Derived.Test.YtfoppbignompkaaDoorCurRefShift2
namespace Go.Proofs.YtfoppbignompkaaDoor
open Go.RowKit

theorem SrcC.nil {w : World} {ao : Option Addr} {cap n : Nat} {zs : List Cu} (h : SrcC w ao cap zs) (hl : zs.length = n) : ao = none → n = 0 := by
  intro e
  rcases h with ⟨_, rfl, _⟩ | ⟨ad, e2, _⟩
  · exact hl.symm
  · rw [e] at e2; cases e2
theorem shift_all (ao : Option Addr) (cap : Nat) (zs : List Cu) (n : Nat) (hl : zs.length = n) (hn : n ≤ 140737488351232) (hnil : ao = none → n = 0) (A O I : Int) (hA : -9223372036854775808 ≤ A ∧ A ≤ 9223372036854775807) (hO : -9223372036854775808 ≤ O ∧ O ≤ 9223372036854775807) (hI : -9223372036854775808 ≤ I ∧ I ≤ 9223372036854775807)
    (hz : IntsC zs) (w : World) (hR : ReadsC w ao zs) :
    Calls Tryd.prog 14 #[.slice ao n cap, .agg #[.int .i64 A, .int .i64 O, .int .i64 I]] w fun e w' =>
      ∃ v, e = .returned (.tuple #[v, .int .i64 (shiftV zs A O I).1]) ∧ w'.ownsRow w.heap.size 36 4 v (shiftV zs A O I).2.length ((shiftV zs A O I).2.flatMap cuC) ∧ Below w.heap.size w w' := by
  by_cases her : wrongN zs = 0
  · by_cases hx : A < 0 ∨ O < 0 ∨ I < 0 ∨ 9223372036854775807 < A + O ∨ 9223372036854775807 < A + I
    · have hv : shiftV zs A O I = (2, []) := by unfold shiftV; rw [if_neg (by rw [her]; simp), if_pos hx]
      rw [hv]
      refine (shift_arg ao cap zs n hl hn A O I hA hO hI her hx w hR).mono ?_
      rintro e w' ⟨rfl, hb⟩
      exact ⟨_, rfl, World.ownsRow_nil _ _ _ _, hb⟩
    · exact shift_ok ao cap zs n hl hnil A O I (by omega) (by omega) (by omega) (by omega) (by omega) her hz w hR
  · have hv : shiftV zs A O I = (wrongN zs, []) := by unfold shiftV; rw [if_pos her]
    rw [hv]
    refine (shift_bad ao cap zs n hl hn A O I _ rfl her w hR).mono ?_
    rintro e w' ⟨rfl, hb⟩
    exact ⟨_, rfl, World.ownsRow_nil _ _ _ _, hb⟩
theorem refshift_all (ao : Option Addr) (cap : Nat) (zs : List Cu) (n : Nat) (hl : zs.length = n) (hn : n ≤ 140737488351232) (A O I : Int) (hA : -9223372036854775808 ≤ A ∧ A ≤ 9223372036854775807) (hO : -9223372036854775808 ≤ O ∧ O ≤ 9223372036854775807) (hI : -9223372036854775808 ≤ I ∧ I ≤ 9223372036854775807)
    (hz : IntsC zs) (w : World) (hR : ReadsC w ao zs) :
    Calls Tryd.prog 15 #[.slice ao n cap, .agg #[.int .i64 A, .int .i64 O, .int .i64 I]] w fun e w' =>
      ∃ v, e = .returned (.tuple #[v, .int .i64 (shiftV zs A O I).1]) ∧ w'.ownsRow w.heap.size 36 4 v (shiftV zs A O I).2.length ((shiftV zs A O I).2.flatMap cuC) ∧ Below w.heap.size w w' := by
  by_cases her : wrongN zs = 0
  · by_cases hx : A < 0 ∨ O < 0 ∨ I < 0 ∨ 9223372036854775807 < A + O ∨ 9223372036854775807 < A + I
    · have hv : shiftV zs A O I = (2, []) := by unfold shiftV; rw [if_neg (by rw [her]; simp), if_pos hx]
      rw [hv]
      refine (refshift_arg ao cap zs n hl hn A O I hA hO hI her hx w hR).mono ?_
      rintro e w' ⟨rfl, hb⟩
      exact ⟨_, rfl, World.ownsRow_nil _ _ _ _, hb⟩
    · exact refshift_ok ao cap zs n hl A O I (by omega) (by omega) (by omega) (by omega) (by omega) her hz w hR
  · have hv : shiftV zs A O I = (wrongN zs, []) := by unfold shiftV; rw [if_pos her]
    rw [hv]
    refine (refshift_bad ao cap zs n hl hn A O I _ rfl her w hR).mono ?_
    rintro e w' ⟨rfl, hb⟩
    exact ⟨_, rfl, World.ownsRow_nil _ _ _ _, hb⟩
theorem own_b4 {w w' : World} {base : Nat} {e : TypeId} {size : Nat} {v : Value} {n : Nat} {xs : List Value} (h : w.ownsRow base e size v n xs) (hb : Below w.heap.size w w') : w'.ownsRow base e size v n xs := owns_below h hb (Nat.le_refl _)
theorem own_apart {w2 w3 : World} {b1 e n m : Nat} {size : Nat} {v1 v2 : Value} {xs ys : List Value} (h1 : w2.ownsRow b1 e size v1 n xs) (h2 : w3.ownsRow w2.heap.size e size v2 m ys) : ∀ g, v1.ownBlock = some g → v2.ownBlock ≠ some g := fun g hg hg2 => by
  have := (h1.lt g hg).2
  have := (h2.lt g hg2).1
  omega
theorem reads_own {w : World} {base e n : Nat} {ao : Option Addr} {c : Nat} {L : List Cu} (h : w.ownsRow base e 4 (.slice ao n c) n (L.flatMap cuC)) (_hm : L.length = n) : ReadsC w ao L := by
  obtain ⟨a9, c9, e9, -, h9⟩ := ReadsC.owned h
  injection e9 with e1 e2 e3
  rw [e1]
  exact h9
theorem shiftV_len (zs : List Cu) (A O I : Int) : (shiftV zs A O I).2.length ≤ 8 := by
  unfold shiftV
  by_cases her : wrongN zs = 0
  · have h8 := (wrongN_zero her).1
    rw [if_neg (by rw [her]; simp)]
    split
    · simp
    · split
      · simpa using h8
      · simp
  · rw [if_pos her]; simp
/-- two lists, laid in a list of lists -/
theorem apartC_two (n : Nat) (hn : n ≤ 1048576) (v1 v2 : Value) (xs1 xs2 : List Value) (B : Nat) (w : World) (hB : B ≤ w.heap.size)
    (h1 : HRow w B 36 4 v1 n xs1) (h2 : HRow w B 36 4 v2 n xs2) (hne : ∀ g, v1.ownBlock = some g → v2.ownBlock ≠ some g) :
    Calls Tryd.prog 18 #[.slice (some ⟨w.heap.size, 0, none⟩) 2 2] (w.alloc (.cells #[v1, v2] 22)) fun e w' => e = .returned (.bool true) ∧ Below B w w' := by
  have hal : Below w.heap.size w (w.alloc (.cells #[v1, v2] 22)) := (Below.refl _ _).alloc (Nat.le_refl _) _
  have two : ∀ j, j < 2 → j = 0 ∨ j = 1 := fun j hj => by omega
  refine (apartC_any 2 (by decide) (fun _ => n) (fun _ _ => hn) (fun j => if j = 0 then v1 else v2) (fun j => if j = 0 then xs1 else xs2) w.heap.size B _ (Nat.le_trans hB hal.size) (by rw [World.size_alloc]; omega) ?_ ?_ ?_ ?_).mono ?_
  · intro j hj
    rcases two j hj with rfl | rfl
    · exact h1.below hal (Nat.le_refl _)
    · exact h2.below hal (Nat.le_refl _)
  · intro j hj
    have := cells_new w [v1, v2] 22 j
    rw [Addr.add_lit, Nat.zero_add] at this
    rcases two j hj with rfl | rfl
    · exact this _ rfl
    · exact this _ rfl
  · intro i j g hij hi hj hg
    rcases two i hi with rfl | rfl <;> rcases two j hj with rfl | rfl
    · exact absurd rfl hij
    · exact hne g hg
    · exact fun e => hne g e hg
    · exact absurd rfl hij
  · intro j hj e
    rcases two j hj with rfl | rfl
    · exact absurd (h1.lt _ e).2 (Nat.lt_irrefl _)
    · exact absurd (h2.lt _ e).2 (Nat.lt_irrefl _)
  · rintro e w' ⟨rfl, hb⟩
    exact ⟨rfl, (hal.mono hB).trans hb⟩

set_option maxRecDepth 100000 in
set_option maxHeartbeats 8000000 in
theorem cursorsShifts_any (ao : Option Addr) (n cap : Nat) (zs : List Cu) (hl : zs.length = n) (hn : n ≤ 4398046510976) (hz : IntsC zs) (A O I : Int) (hA : -9223372036854775808 ≤ A ∧ A ≤ 9223372036854775807) (hO : -9223372036854775808 ≤ O ∧ O ≤ 9223372036854775807) (hI : -9223372036854775808 ≤ I ∧ I ≤ 9223372036854775807)
    (w : World) (hT : Tabs w) (hS : SrcC w ao cap zs) :
    Calls Tryd.prog 3 #[.slice ao n cap, .agg #[.int .i64 A, .int .i64 O, .int .i64 I]] w fun e w' => e = .returned (.bool true) ∧ Below w.heap.size w w' := by
  have HT := Lib.hid hT
  have HAW := Lib.hid (fun w hT => cawake_any w hT)
  have HSP := Lib.hid (fun w hA => spareC_any ao cap n zs hl hn w hA)
  have HSR := Lib.hid (show ∀ W, Below w.heap.size w W → SrcC W ao cap zs from fun W hb => by
    rcases hS with h | ⟨ad, e, hc⟩
    · exact .inl h
    · exact .inr ⟨ad, e, fun j u hj => (hb.cell (World.block_lt_of_cell? w _ (hc j u hj))).trans (hc j u hj)⟩)
  have HSH := Lib.hid (fun g c w hR => shift_all (some ⟨g, 0, none⟩) c zs n hl (by omega) (fun e => by cases e) A O I hA hO hI hz w hR)
  have HRS := Lib.hid (fun w hR => refshift_all ao cap zs n hl (by omega) A O I hA hO hI hz w hR)
  have HR := Lib.hid hS.reads
  have HKP := Lib.hid (fun g c hc w hA hR => keptC_any ao cap n g c zs hn hc w hA hR)
  have HL := Lib.hid hl
  have hL8 := shiftV_len zs A O I
  obtain ⟨⟨er, L⟩, hV⟩ : ∃ p, shiftV zs A O I = p := ⟨_, rfl⟩
  rw [hV] at HSH HRS hL8
  obtain ⟨m, hm⟩ : ∃ m, L.length = m := ⟨_, rfl⟩
  have HM := Lib.hid hm
  simp only at HSH HRS hL8
  rw [hm] at HSH HRS hL8
  have HSM := Lib.hid (fun a b ca cb w hA hB => same_any a b m ca cb L hm (by omega) w hA hB)
  have HAP := Lib.hid (fun v1 v2 xs1 xs2 B w hB h1 h2 hne => apartC_two m (by omega) v1 v2 xs1 xs2 B w hB h1 h2 hne)
  have K0 := Blk.new w 24 [.int .i64 A, .int .i64 O, .int .i64 I]
  have hb0 : Below w.heap.size w _ := al (Below.refl _ _) (.cells #[.int .i64 A, .int .i64 O, .int .i64 I] 24)
  obtain ⟨W, hW⟩ : ∃ W, w.alloc (.cells #[.int .i64 A, .int .i64 O, .int .i64 I] 24) = W := ⟨_, rfl⟩
  replace K0 : Blk W w.heap.size 24 [.int .i64 A, .int .i64 O, .int .i64 I] := hW ▸ K0
  replace hb0 : Below w.heap.size w W := hW ▸ hb0
  clear hT hS hl hV hm hz hA hO hI
  go_enter Tryd.func3, Tryd.ntmps3
  go_wp2_with (first
    | (go_at_call 13; (with_reducible refine (HSP.out _ (HSR.out _ hb0)).mono ?_); rintro e w1 ⟨g, c, hc, rfl, ho1, hb1⟩; have SP1 := Lib.hid (SpareC.of_own HL.out ho1); have hg1 := (ho1.lt g rfl).2; have hB1 := Lib.hid (nx hb0 hb1); have K1 := Lib.hid (K0.below hb1); have a0 := K1.out.cell 0 rfl; have a1 := K1.out.cell 1 rfl; have a2 := K1.out.cell 2 rfl; clear ho1)
    | (go_at_call 14; (with_reducible refine (HSH.out g c w1 SP1.out.reads).mono ?_); rintro e w2 ⟨va, rfl, ho2, hb2⟩; have hO2 := Lib.hid ho2; have K2 := Lib.hid (K1.out.below hb2); have b0 := K2.out.cell 0 rfl; have b1 := K2.out.cell 1 rfl; have b2 := K2.out.cell 2 rfl; have SP2 := Lib.hid (SP1.out.below hb2); obtain ⟨p2, c2, rfl⟩ := (HRow.of_own ho2).form; clear ho2)
    | (go_at_call 14; (with_reducible refine (HSH.out g c w2 SP2.out.reads).mono ?_); rintro e w3 ⟨vb, rfl, ho3, hb3⟩; have hO3 := Lib.hid ho3; have K3 := Lib.hid (K2.out.below hb3); have d0 := K3.out.cell 0 rfl; have d1 := K3.out.cell 1 rfl; have d2 := K3.out.cell 2 rfl; obtain ⟨p3, c3, rfl⟩ := (HRow.of_own ho3).form; clear ho3; have hB3 := Lib.hid (nx (nx hB1.out hb2) hb3); have H13 := Lib.hid (nx hb2 hb3))
    | (go_at_call 15; (with_reducible refine (HRS.out _ (HR.out.below hB3.out)).mono ?_); rintro e w4 ⟨vw, rfl, ho4, hb4⟩; have hO4 := Lib.hid ho4; obtain ⟨p4, c4, rfl⟩ := (HRow.of_own ho4).form; clear ho4; have hB4 := Lib.hid (nx hB3.out hb4); have H14 := Lib.hid (nx H13.out hb4))
    | (go_at_call 16; (with_reducible refine (HSM.out p2 p4 c2 c4 w4 (reads_own (own_b4 (own_b4 hO2.out hb3) hb4) HM.out) (reads_own hO4.out HM.out)).mono ?_); rintro e w5 ⟨rfl, hb5⟩; have H45 := Lib.hid hb5; have H15 := Lib.hid (nx H14.out hb5); have hB5 := Lib.hid (nx hB4.out hb5))
    | (go_at_call 16; (with_reducible refine (HSM.out p3 p4 c3 c4 w5 (reads_own (own_b4 (own_b4 hO3.out hb4) H45.out) HM.out) (reads_own (own_b4 hO4.out H45.out) HM.out)).mono ?_); rintro e w6 ⟨rfl, hb6⟩; have H46 := Lib.hid (nx H45.out hb6); have H16 := Lib.hid (nx H15.out hb6); have hB6 := Lib.hid (nx hB5.out hb6))
    | (go_at_call 17; (with_reducible refine (HKP.out g c hc w6 (HR.out.below hB6.out) (SP1.out.below H16.out)).mono ?_); rintro e w7 ⟨rfl, hb7⟩; have H47 := Lib.hid (nx H46.out hb7); have H17 := Lib.hid (nx H16.out hb7); have hB7 := Lib.hid (nx hB6.out hb7); have HA7 := Lib.hid (HRow.of_own (own_b4 hO2.out (nx hb3 (nx hb4 H47.out)))); have HV7 := Lib.hid ((HRow.of_own (own_b4 hO3.out (nx hb4 H47.out))).lower hb2.size); have HN7 := Lib.hid (own_apart hO2.out hO3.out))
    | (go_at_call 18; (with_reducible refine (HAP.out _ _ _ _ w1.heap.size w7 H17.out.size HA7.out HV7.out HN7.out).mono ?_); rintro e w8 ⟨rfl, hb8⟩; have H18 := Lib.hid (H17.out.trans hb8); have hB8 := Lib.hid (hB7.out.trans (hb8.mono hB1.out.size)))
    | (go_at_call 17; (with_reducible refine (HKP.out g c hc w8 (HR.out.below hB8.out) (SP1.out.below H18.out)).mono ?_); rintro e w9 ⟨rfl, hb9⟩; have hB9 := Lib.hid (nx hB8.out hb9))
    | (go_at_call 19; (with_reducible refine (HAW.out _ (HT.out.below hB9.out (Nat.le_refl _))).mono ?_); rintro e w10 ⟨rfl, hb10⟩; have hB10 := nx hB9.out hb10))
  go_ret
  exact ⟨rfl, hB10⟩
end Go.Proofs.YtfoppbignompkaaDoor
