/-
  The iterator over a text's lines, its elements by their numbers: so a body knows that what comes is a line.
-/
import Derived.Test.YtfoppbignompkaaDoorLAll
import Derived.Test.YtfoppbignompkaaDoorBox
namespace Go.Proofs.YtfoppbignompkaaDoor
open Go.RowKit
attribute [local go_sem] Oper.semAt_some

/-- the line number k -/
def lnX (l : Bs) (k : Nat) : Nat × Nat × Nat := (linesL l)[k]?.getD (0, 0, 0)
theorem lnX_fits (l : Bs) (k : Nat) : (lnX l k).1 ≤ (lnX l k).2.1 ∧ (lnX l k).2.1 + (lnX l k).2.2 ≤ l.length ∧ (lnX l k).2.2 ≤ 3 := by
  by_cases h : k < lnN l
  · obtain ⟨h1, h2, h3, _⟩ := ln_get l k h
    exact ⟨h1, h2, h3⟩
  · unfold lnX
    rw [List.getElem?_eq_none (by unfold lnN at h; omega)]
    exact ⟨Nat.le_refl _, Nat.zero_le _, Nat.zero_le _⟩
theorem lnX_split {l : Bs} {m : Nat} {x : Nat × Nat × Nat} {rest : List (Nat × Nat × Nat)} (hm : m ≤ lnN l) (h : (linesL l).take m ++ x :: rest = linesL l) :
    m < lnN l ∧ lnX l m = x ∧ (linesL l).take (m + 1) ++ rest = linesL l := by
  have hl : ((linesL l).take m).length = m := by rw [List.length_take]; exact Nat.min_eq_left hm
  obtain ⟨h1, h2⟩ := take_of_split h
  rw [hl] at h1 h2
  refine ⟨h1, ?_, by rw [← h2, List.append_assoc]; exact h⟩
  unfold lnX
  have : (linesL l)[m]? = some x := by
    conv => lhs; rw [← h]
    rw [List.getElem?_append_right (by omega), hl, Nat.sub_self]
    rfl
  rw [this]
  rfl
/-- a line, as a range takes it, by its number -/
def encK (l : Bs) (k : Nat) : Array Value := encLn (lnX l k)

set_option maxRecDepth 100000 in
set_option maxHeartbeats 4000000 in
theorem lallk_in (n : Nat) (hn : 1 ≤ n) (l B : Nat) (w0 : World) (hT : Tabs w0) (s : ByteArray) (hs : s.size ≤ 140737488351232) (J Jx : List Nat → World → Prop) (W : World) (hW : Below w0.heap.size w0 W) (hJ : AbidesFrom W.heap.size J)
    (hY : ∀ pre x W1, J pre W1 → pre.length < lnN (bs s) → YieldAt Fence.wide (n - 1) Tryd.prog l (encK (bs s) x) W1 fun e W' =>
      (e = .returned (.bool true) ∧ J (pre ++ [x]) W' ∧ KpW B w0.heap.size W1 W') ∨ (e = .returned (.bool false) ∧ Jx (pre ++ [x]) W'))
    (hB : W.cell? ⟨B, 0, none⟩ = some (.string s)) (h0 : J [] W) :
    CallsIn Fence.wide n Tryd.prog 88 #[.func (.yield l) #[] #[], .pointer (some ⟨B, 0, none⟩)] W fun e W' => (∃ v, e = .returned v) ∧
      ((∃ ys, ys = List.range (lnN (bs s)) ∧ J ys W') ∨ (∃ pre, (∃ k, k ≤ lnN (bs s) ∧ pre = List.range k) ∧ Jx pre W')) := by
  refine callsIn_of_wp Tryd.func88 rfl trivial ?_ rfl
  simp only [Tryd.ntmps88, List.size_toArray, List.length_cons, List.length_nil, Nat.reduceAdd, Nat.reduceSub, Array.replicate_succ, Array.replicate_zero, List.push_toArray, List.append_toArray, List.nil_append, List.cons_append]
  have HJ := Lib.hid hJ
  have HY := Lib.hid hY
  have HT := Lib.hid hT
  have HE := Lib.hid (fun c w hT => lend_any s hs c w hT)
  obtain ⟨L, hL⟩ : ∃ L, bs s = L := ⟨_, rfl⟩
  have hlen : L.length = s.size := by rw [← hL, size_bs]
  rw [hL] at HY HE ⊢
  have HLEN := Lib.hid hlen
  clear hJ hY hT hL hlen
  have hBlt := World.block_lt_of_cell? W _ hB
  simp only at hBlt
  refine wpIn_wide.2 (wp_scope_straight ((wpIn_wide (n := n)).1 ?_))
  gi_wp2
  refine wpIn_label ?_
  gi_wp2
  gi_loopw [3, 4, 5, 6] (fun f i _ _ wr => ∃ f' i' : Nat, f = .int .i64 (f' : Nat) ∧ i = .int .i64 (i' : Nat) ∧ i' ≤ s.size ∧ wr.cell? ⟨B, 0, none⟩ = some (.string s) ∧ Below w0.heap.size w0 wr ∧ Hid (∃ m, m ≤ lnN L ∧ (linesL L).take m ++ lnRest L f' i' = linesL L ∧ J (List.range m) wr)) (fun _ i _ _ _ => s.size - (intOf i).toNat)
  case atStart => exact ⟨0, 0, rfl, rfl, Nat.zero_le _, hB, hW, Lib.hid ⟨0, Nat.zero_le _, rfl, h0⟩⟩
  case round =>
    obtain ⟨f', i', rfl, rfl, hi, hcB, hbw, hh⟩ := hrel
    by_cases hlt : i' < s.size
    · have hil : i' < L.length := by rw [HLEN.out]; exact hlt
      have hki : (i' : Int) < (s.size : Int) := by omega
      have HEE := Lib.hid (fun w hT => HE.out (i' : Nat) w hT)
      rw [endZ_nat] at HEE
      by_cases he : endN L i' = 0
      · rw [he, show nzB 0 = false from rfl] at HEE
        have HLN := Lib.hid (ln_no (f := f') hil he)
        clear hil he
        gi_wp2_with ((refine ⟨trivial, ?_⟩); gi_at_call 89; (with_reducible refine (callsIn_wide.2 (HEE.out _ (HT.out.below hbw (Nat.le_refl _)))).mono ?_); rintro e w1 ⟨rfl, hb1⟩; have hbb := nx hbw hb1; have hcB1 := cellKeep hcB hb1; have HG := Lib.hid (Below.grow hb1))
        exact ⟨⟨f', i' + 1, rfl, by go_num, hlt, hcB1, hbb, Lib.hid (by
          obtain ⟨m, hm, h1, h2⟩ := hh.out
          exact ⟨m, hm, by rw [← HLN.out]; exact h1, HJ.out _ _ w1 none h2 HG.out (fun r e => by cases e)⟩)⟩, by simp [intOf]; omega⟩
      · have HLN := Lib.hid (ln_yes (f := f') he)
        have hfit := end_fits he
        rw [HLEN.out] at hfit
        obtain ⟨x, hx⟩ : ∃ x, endN L i' = x := ⟨_, rfl⟩
        rw [hx] at HEE HLN hfit
        have hx1 : 1 ≤ x := by omega
        rw [show nzB x = true from bne_iff_ne.2 (by omega)] at HEE
        obtain ⟨m, hm, h1, h2⟩ := hh.out
        rw [HLN.out] at h1
        obtain ⟨hpl, hxm, hrest⟩ := lnX_split hm h1
        have HPL := Lib.hid hpl
        have HPL' := Lib.hid (show (List.range m).length < lnN L by rw [List.length_range]; exact hpl)
        have HXM := Lib.hid hxm
        have HS := Lib.hid hrest
        have HJ2 := Lib.hid h2
        clear hil he hx h1 h2 hpl hxm hrest hh hm
        gi_wp2_with ((refine ⟨trivial, ?_⟩); gi_at_call 89; (with_reducible refine (callsIn_wide.2 (HEE.out _ (HT.out.below hbw (Nat.le_refl _)))).mono ?_); rintro e w1 ⟨rfl, hb1⟩; have hbb := nx hbw hb1; have hcB1 := cellKeep hcB hb1; obtain ⟨fn, tmps, assign, body, hy, hR⟩ := HY.out _ m w1 (HJ.out _ _ w1 none HJ2.out (Below.grow hb1) (fun r e => by cases e)) HPL'.out; rw [show encK L m = #[.agg #[.int .i64 (f' : Nat), .int .i64 (i' : Nat)], .int .i64 (x : Nat)] by unfold encK; rw [HXM.out]; rfl] at hy)
        refine hR.mono ?_
        rintro e W3 (⟨rfl, hJ3, hk3⟩ | ⟨rfl, hJx3⟩)
        · have hb3 := hbb.trans hk3.1.2
          have hcB4 := (World.cell?_of_block (a := ⟨B, 0, none⟩) hk3.2).trans hcB1
          have HREL := Lib.hid (show ∃ m, m ≤ lnN L ∧ (linesL L).take m ++ lnRest L (i' + x) (i' + x) = linesL L ∧ J (List.range m) W3 from ⟨m + 1, HPL.out, HS.out, by rw [List.range_succ]; exact hJ3⟩)
          clear hk3 hJ3
          gi_wp2
          exact ⟨⟨i' + x, i' + x, by go_num, by go_num, hfit, hcB4, hb3, HREL⟩, by simp [intOf]; omega⟩
        · gi_wp2
          rw [Exit.noGoto_ret]
          refine bodyPost_ret (results_none rfl _ _ _) rfl ?_
          exact ⟨⟨_, rfl⟩, .inr ⟨_, ⟨m + 1, HPL.out, (List.range_succ).symm⟩, hJx3⟩⟩
    · have hii : i' = s.size := by omega
      subst hii
      obtain ⟨m, hm, h1, h2⟩ := hh.out
      rw [ln_end (by rw [HLEN.out]; exact Nat.le_refl _), HLEN.out] at h1
      obtain ⟨hpl, hxm, hrest⟩ := lnX_split hm h1
      have HPL := Lib.hid hpl
      have HS := Lib.hid (show List.range m ++ [m] = List.range (lnN L) by
        have := congrArg List.length hrest
        rw [List.append_nil, List.length_take] at this
        rw [← List.range_succ]
        congr 1
        unfold lnN at hpl ⊢
        omega)
      obtain ⟨fn, tmps, assign, body, hy, hR⟩ := HY.out _ m wr h2 (by rw [List.length_range]; exact hpl)
      rw [show encK L m = #[.agg #[.int .i64 (f' : Nat), .int .i64 (s.size : Nat)], .int .i64 0] by unfold encK; rw [hxm]; rfl] at hy
      clear h1 h2 hpl hxm hrest hh hm
      gi_wp2
      refine hR.mono ?_
      rintro e W3 (⟨rfl, hJ3, hk3⟩ | ⟨rfl, hJx3⟩)
      · have HJ3 := Lib.hid hJ3
        clear hJ3 hk3
        gi_wp2
        rw [Exit.noGoto_normal]
        go_end0
        exact ⟨⟨_, rfl⟩, .inl ⟨_, HS.out, HJ3.out⟩⟩
      · gi_wp2
        rw [Exit.noGoto_normal]
        go_end0
        exact ⟨⟨_, rfl⟩, .inr ⟨_, ⟨m + 1, HPL.out, (List.range_succ).symm⟩, hJx3⟩⟩

/-- All(s), as a range over it takes it, by the lines' numbers. -/
theorem lallk_stops (n : Nat) (hn : 1 ≤ n) (B : Nat) (w0 : World) (hT : Tabs w0) (s : ByteArray) (hs : s.size ≤ 140737488351232) (w : World) (hw : Below w0.heap.size w0 w) (hB : w.cell? ⟨B, 0, none⟩ = some (.string s)) :
    SeqStopsK Fence.wide n Tryd.prog 88 #[.pointer (some ⟨B, 0, none⟩)] (encK (bs s)) (KpW B w0.heap.size) (fun ys => ys = List.range (lnN (bs s))) (fun pre => ∃ k, k ≤ lnN (bs s) ∧ pre = List.range k) (lnN (bs s)) w :=
  fun l J Jx W hW hJ _ hY h0 => lallk_in n hn l B w0 hT s hs J Jx W (hw.trans (hW.mono hw.size)) hJ hY ((hW.cell (p := ⟨B, 0, none⟩) (World.block_lt_of_cell? w _ hB)).trans hB) h0
end Go.Proofs.YtfoppbignompkaaDoor
