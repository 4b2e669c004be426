/-
  The iterator over a text's lines: what it tells a round, whole and left early.
-/
import Derived.Test.YtfoppbignompkaaDoorLEnd
import Derived.Test.YtfoppbignompkaaDoorIter
import Derived.WalkMore
namespace Go.Proofs.YtfoppbignompkaaDoor
open Go.RowKit
attribute [local go_sem] Oper.semAt_some

/-- a line, as a range takes it -/
def encLn (x : Nat × Nat × Nat) : Array Value := #[.agg #[.int .i64 (x.1 : Int), .int .i64 (x.2.1 : Int)], .int .i64 (x.2.2 : Int)]

set_option maxHeartbeats 1000000 in
theorem lall_in (s : ByteArray) (w : World) :
    Calls Tryd.prog 54 #[.string s] w fun e w' => e = .returned (.func (.func 88) #[] #[.pointer (some ⟨w.heap.size, 0, none⟩)]) ∧ w' = w.alloc (.cells #[.string s] 9) := by
  go_enter Tryd.func54, Tryd.ntmps54
  go_wp2
  go_ret
  exact ⟨rfl, rfl⟩

theorem take_of_split {α : Type} {pre rest L : List α} {x : α} (h : pre ++ x :: rest = L) : pre.length < L.length ∧ pre ++ [x] = L.take (pre.length + 1) := by
  subst h
  refine ⟨by simp, ?_⟩
  rw [List.take_append, List.take_of_length_le (by omega)]
  simp

set_option maxRecDepth 100000 in
set_option maxHeartbeats 4000000 in
theorem lall1_in (n : Nat) (hn : 1 ≤ n) (l B : Nat) (w0 : World) (hT : Tabs w0) (s : ByteArray) (hs : s.size ≤ 140737488351232) (J Jx : List (Nat × Nat × Nat) → World → Prop) (W : World) (hW : Below w0.heap.size w0 W) (hJ : AbidesFrom W.heap.size J)
    (hY : ∀ pre x W1, J pre W1 → pre.length < lnN (bs s) → YieldAt Fence.wide (n - 1) Tryd.prog l (encLn x) W1 fun e W' =>
      (e = .returned (.bool true) ∧ J (pre ++ [x]) W' ∧ KpW B w0.heap.size W1 W') ∨ (e = .returned (.bool false) ∧ Jx (pre ++ [x]) W'))
    (hB : W.cell? ⟨B, 0, none⟩ = some (.string s)) (h0 : J [] W) :
    CallsIn Fence.wide n Tryd.prog 88 #[.func (.yield l) #[] #[], .pointer (some ⟨B, 0, none⟩)] W fun e W' => (∃ v, e = .returned v) ∧
      ((∃ ys, ys = linesL (bs s) ∧ J ys W') ∨ (∃ pre, (∃ k, k ≤ lnN (bs s) ∧ pre = (linesL (bs s)).take k) ∧ Jx pre W')) := by
  refine callsIn_of_wp Tryd.func88 rfl trivial ?_ rfl
  simp only [Tryd.ntmps88, List.size_toArray, List.length_cons, List.length_nil, Nat.reduceAdd, Nat.reduceSub, Array.replicate_succ, Array.replicate_zero, List.push_toArray, List.append_toArray, List.nil_append, List.cons_append]
  have HJ := Lib.hid hJ
  have HY := Lib.hid hY
  have HT := Lib.hid hT
  have HE := Lib.hid (fun c w hT => lend_any s hs c w hT)
  obtain ⟨L, hL⟩ : ∃ L, bs s = L := ⟨_, rfl⟩
  have hlen : L.length = s.size := by rw [← hL, size_bs]
  rw [hL] at HY HE ⊢
  have HLEN := Lib.hid hlen
  clear hJ hY hT hL hlen
  have hBlt := World.block_lt_of_cell? W _ hB
  simp only at hBlt
  refine wpIn_wide.2 (wp_scope_straight ((wpIn_wide (n := n)).1 ?_))
  gi_wp2
  refine wpIn_label ?_
  gi_wp2
  gi_loopw [3, 4, 5, 6] (fun f i _ _ wr => ∃ f' i' : Nat, f = .int .i64 (f' : Nat) ∧ i = .int .i64 (i' : Nat) ∧ i' ≤ s.size ∧ wr.cell? ⟨B, 0, none⟩ = some (.string s) ∧ Below w0.heap.size w0 wr ∧ Hid (∃ pre, pre ++ lnRest L f' i' = linesL L ∧ J pre wr)) (fun _ i _ _ _ => s.size - (intOf i).toNat)
  case atStart => exact ⟨0, 0, rfl, rfl, Nat.zero_le _, hB, hW, Lib.hid ⟨[], rfl, h0⟩⟩
  case round =>
    obtain ⟨f', i', rfl, rfl, hi, hcB, hbw, hh⟩ := hrel
    by_cases hlt : i' < s.size
    · have hil : i' < L.length := by rw [HLEN.out]; exact hlt
      have hki : (i' : Int) < (s.size : Int) := by omega
      have HEE := Lib.hid (fun w hT => HE.out (i' : Nat) w hT)
      rw [endZ_nat] at HEE
      by_cases he : endN L i' = 0
      · rw [he, show nzB 0 = false from rfl] at HEE
        have HLN := Lib.hid (ln_no (f := f') hil he)
        clear hil he
        gi_wp2_with ((refine ⟨trivial, ?_⟩); gi_at_call 89; (with_reducible refine (callsIn_wide.2 (HEE.out _ (HT.out.below hbw (Nat.le_refl _)))).mono ?_); rintro e w1 ⟨rfl, hb1⟩; have hbb := nx hbw hb1; have hcB1 := cellKeep hcB hb1; have HG := Lib.hid (Below.grow hb1))
        exact ⟨⟨f', i' + 1, rfl, by go_num, hlt, hcB1, hbb, Lib.hid (by
          obtain ⟨pre, h1, h2⟩ := hh.out
          exact ⟨pre, by rw [← HLN.out]; exact h1, HJ.out _ _ w1 none h2 HG.out (fun r e => by cases e)⟩)⟩, by simp [intOf]; omega⟩
      · have HLN := Lib.hid (ln_yes (f := f') he)
        have hfit := end_fits he
        rw [HLEN.out] at hfit
        obtain ⟨x, hx⟩ : ∃ x, endN L i' = x := ⟨_, rfl⟩
        rw [hx] at HEE HLN hfit
        have hx1 : 1 ≤ x := by omega
        rw [show nzB x = true from bne_iff_ne.2 (by omega)] at HEE
        obtain ⟨pre, h1, h2⟩ := hh.out
        rw [HLN.out] at h1
        obtain ⟨hpl, htk⟩ := take_of_split h1
        have HPL := Lib.hid hpl
        have HTK := Lib.hid htk
        have HS := Lib.hid (show (pre ++ [(f', i', x)]) ++ lnRest L (i' + x) (i' + x) = linesL L by rw [List.append_assoc]; exact h1)
        have HJ2 := Lib.hid h2
        clear hil he hx h1 h2 hpl htk hh
        gi_wp2_with ((refine ⟨trivial, ?_⟩); gi_at_call 89; (with_reducible refine (callsIn_wide.2 (HEE.out _ (HT.out.below hbw (Nat.le_refl _)))).mono ?_); rintro e w1 ⟨rfl, hb1⟩; have hbb := nx hbw hb1; have hcB1 := cellKeep hcB hb1; obtain ⟨fn, tmps, assign, body, hy, hR⟩ := HY.out _ (f', i', x) w1 (HJ.out _ _ w1 none HJ2.out (Below.grow hb1) (fun r e => by cases e)) HPL.out; dsimp only [encLn] at hy)
        refine hR.mono ?_
        rintro e W3 (⟨rfl, hJ3, hk3⟩ | ⟨rfl, hJx3⟩)
        · have hb3 := hbb.trans hk3.1.2
          have hcB4 := (World.cell?_of_block (a := ⟨B, 0, none⟩) hk3.2).trans hcB1
          have HREL := Lib.hid (show ∃ pre, pre ++ lnRest L (i' + x) (i' + x) = linesL L ∧ J pre W3 from ⟨_, HS.out, hJ3⟩)
          clear hk3 hJ3
          gi_wp2
          exact ⟨⟨i' + x, i' + x, by go_num, by go_num, hfit, hcB4, hb3, HREL⟩, by simp [intOf]; omega⟩
        · gi_wp2
          rw [Exit.noGoto_ret]
          refine bodyPost_ret (results_none rfl _ _ _) rfl ?_
          exact ⟨⟨_, rfl⟩, .inr ⟨_, ⟨pre.length + 1, HPL.out, HTK.out⟩, hJx3⟩⟩
    · have hii : i' = s.size := by omega
      subst hii
      obtain ⟨pre, h1, h2⟩ := hh.out
      rw [ln_end (by rw [HLEN.out]; exact Nat.le_refl _), HLEN.out] at h1
      obtain ⟨hpl, htk⟩ := take_of_split h1
      have HPL := Lib.hid hpl
      have HTK := Lib.hid htk
      have HS := Lib.hid h1
      obtain ⟨fn, tmps, assign, body, hy, hR⟩ := HY.out _ (f', s.size, 0) wr h2 hpl
      dsimp only [encLn] at hy
      rw [show ((0 : Nat) : Int) = 0 from rfl] at hy
      clear h1 h2 hpl htk hh
      gi_wp2
      refine hR.mono ?_
      rintro e W3 (⟨rfl, hJ3, hk3⟩ | ⟨rfl, hJx3⟩)
      · have HJ3 := Lib.hid hJ3
        clear hJ3 hk3
        gi_wp2
        rw [Exit.noGoto_normal]
        go_end0
        exact ⟨⟨_, rfl⟩, .inl ⟨_, HS.out, HJ3.out⟩⟩
      · gi_wp2
        rw [Exit.noGoto_normal]
        go_end0
        exact ⟨⟨_, rfl⟩, .inr ⟨_, ⟨pre.length + 1, HPL.out, HTK.out⟩, hJx3⟩⟩

/-- All(s), as a range over it takes it. -/
theorem lall_stops (n : Nat) (hn : 1 ≤ n) (B : Nat) (w0 : World) (hT : Tabs w0) (s : ByteArray) (hs : s.size ≤ 140737488351232) (w : World) (hw : Below w0.heap.size w0 w) (hB : w.cell? ⟨B, 0, none⟩ = some (.string s)) :
    SeqStopsK Fence.wide n Tryd.prog 88 #[.pointer (some ⟨B, 0, none⟩)] encLn (KpW B w0.heap.size) (fun ys => ys = linesL (bs s)) (fun pre => ∃ k, k ≤ lnN (bs s) ∧ pre = (linesL (bs s)).take k) (lnN (bs s)) w :=
  fun l J Jx W hW hJ _ hY h0 => lall1_in n hn l B w0 hT s hs J Jx W (hw.trans (hW.mono hw.size)) hJ hY ((hW.cell (p := ⟨B, 0, none⟩) (World.block_lt_of_cell? w _ hB)).trans hB) h0
end Go.Proofs.YtfoppbignompkaaDoor
