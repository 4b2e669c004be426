/-
  The iterators over a text's characters: what each tells a round, whole and left early.
-/
import Derived.Test.YtkknmbkfiiidmaaDoorSeam
import Derived.Test.YtkknmbkfiiidmaaDoorReads
import Derived.RangeFuncNested
import Derived.RangeFuncBound
import Derived.RangeFuncLeaves
import Derived.OwnWalkIn
import Derived.TacticsInMore
import Derived.LoopNIn
import Derived.LoopIn
namespace Go.Proofs.YtkknmbkfiiidmaaDoor
open Go.RowKit
attribute [local go_sem] Oper.semAt_some

/-- the first k values -/
def ups {α : Type} (f : Nat → α) (k : Nat) : List α := (List.range k).map f
theorem ups_succ {α : Type} (f : Nat → α) (k : Nat) : ups f (k + 1) = ups f k ++ [f k] := by simp [ups, List.range_succ]
theorem ups_length {α : Type} (f : Nat → α) (k : Nat) : (ups f k).length = k := by simp [ups]
theorem ups_get {α : Type} (f : Nat → α) (k i : Nat) (h : i < k) : (ups f k)[i]? = some (f i) := by simp [ups, h]
/-- a list that is the first k values is so at its own length; each of its last values is known -/
theorem ups_last {α : Type} {f : Nat → α} {k : Nat} {pre : List α} {x : α} (h : pre ++ [x] = ups f k) : k = pre.length + 1 ∧ x = f pre.length ∧ pre = ups f pre.length := by
  have hl := congrArg List.length h
  simp [ups_length] at hl
  subst hl
  rw [ups_succ] at h
  obtain ⟨h1, h2⟩ := List.append_inj' h rfl
  exact ⟨rfl, by simpa using h2, h1⟩

/-- what a round keeps: walks' objects, and what lay below -/
def KpB (B : Nat) (W W' : World) : Prop := KeepsWalks W W' ∧ Below B W W'
theorem kpB_t {B : Nat} {X Y Z : World} (h : KpB B X Y) (k : KpB B Y Z) : KpB B X Z := ⟨h.1.trans k.1, h.2.trans k.2⟩
theorem kpB_b {B : Nat} {w : World} (hB : B ≤ w.heap.size) (W : World) (l : Nat) (o o' : Obj) (hl : w.heap.size ≤ l) (h : W.heap[l]? = some o) (hc : o.isCells = false) (hw : o.isWalk = false) : KpB B W (W.putObj l o') :=
  ⟨walksK_b W l o o' hl h hc hw, belowK_b hB W l o o' hl h hc hw⟩

theorem Below.grow {w w' : World} (h : Below w.heap.size w w') : w.grownBy w' none := ⟨h.os, h.tape, h.output, h.size, fun k hk _ => h.block k hk⟩

/-- place and rune of a character -/
def allF (l : Bs) (k : Nat) : Nat × Nat := (atN l k, ((tk l)[k]?.getD (0, 0)).1)
/-- .. from the last one on -/
def backF (l : Bs) (k : Nat) : Nat × Nat := allF l (countN l - 1 - k)
def encP (x : Nat × Nat) : Array Value := #[.int .i64 (x.1 : Int), .int .i32 (x.2 : Int)]

theorem Cut.get {l : Bs} {done : List (Nat × Nat)} {p : Nat} (h : Cut l done p) (hp : p < l.length) : (tk l)[done.length]?.getD (0, 0) = Lib.decodeL (l.drop p) := by
  have hne : l.drop p ≠ [] := by intro e; have := congrArg List.length e; simp at this; omega
  rw [h.2.1, tk_cons _ hne]
  simp
theorem Cut.allF {l : Bs} {done : List (Nat × Nat)} {p : Nat} (h : Cut l done p) (hp : p < l.length) : allF l done.length = (p, (Lib.decodeL (l.drop p)).1) := by
  unfold Go.Proofs.YtkknmbkfiiidmaaDoor.allF
  rw [h.at', h.get hp]

/-! ### Back -/
theorem atN_zero (l : Bs) : atN l 0 = 0 := by simp [atN, wsum]
theorem atN_succ (l : Bs) (m : Nat) (h : m < countN l) : atN l (m + 1) = atN l m + ((tk l)[m]?.getD (0, 0)).2 := by
  have h1 : m < (tk l).length := h
  unfold atN
  rw [List.take_succ_eq_append_getElem h1, wsum_append, wsum_cons, wsum_nil, List.getElem?_eq_getElem h1]
  rfl
theorem took_at (l : Bs) (m : Nat) (h : m ≤ countN l) : tk (l.take (atN l m)) = (tk l).take m := by
  have hc := cut_at l m h
  have hl : (l.take (atN l m)).length = atN l m := by rw [List.length_take]; exact Nat.min_eq_left hc.1
  have e := tk_append _ (l.take (atN l m)) (l.drop (atN l m)) (Nat.le_refl _) (by rw [List.take_append_drop, hl]; exact ⟨_, hc⟩)
  rw [List.take_append_drop] at e
  have h2 : tk (l.take (atN l m)) ++ tk (l.drop (atN l m)) = (tk l).take m ++ tk (l.drop (atN l m)) := e.symm.trans hc.2.1
  exact List.append_cancel_right h2
theorem last_at_take (l : Bs) (m : Nat) (h : m < countN l) : lastC (l.take (atN l (m + 1))) = (tk l)[m]?.getD (0, 0) := by
  have h1 : m < (tk l).length := h
  unfold lastC
  rw [took_at l (m + 1) h, List.take_succ_eq_append_getElem h1, List.getLast?_append, List.getElem?_eq_getElem h1]
  simp
theorem toList_len (R : ByteArray) : R.toList.length = R.size := by
  rw [ByteArray.toList_eq]
  exact Array.length_toList
theorem notEmpty (R : ByteArray) (h : 1 ≤ R.size) : R.toList.isEmpty = false := by
  rw [← toList_len] at h
  cases he : R.toList
  · rw [he] at h; simp at h
  · rfl
theorem isEmpty' (R : ByteArray) (h : R.size = 0) : R.toList.isEmpty = true := by
  rw [← toList_len] at h
  rw [List.length_eq_zero_iff.1 h]
  rfl
def lenV : Value → Nat
  | .string s => s.size
  | _ => 0

set_option maxHeartbeats 1000000 in
theorem back_in (s : ByteArray) (w : World) :
    Calls Tryd.prog 45 #[.string s] w fun e w' => e = .returned (.func (.func 55) #[] #[.pointer (some ⟨w.heap.size, 0, none⟩)]) ∧ w' = w.alloc (.cells #[.string s] 9) := by
  go_enter Tryd.func45, Tryd.ntmps45
  go_wp2
  go_ret
  exact ⟨rfl, rfl⟩

set_option maxRecDepth 100000 in
set_option maxHeartbeats 2000000 in
theorem back1_in (n : Nat) (hn : 1 ≤ n) (l B : Nat) (w0 : World) (hT : Tabs w0) (s : ByteArray) (hs : s.size ≤ 140737488351232) (J Jx : List (Nat × Nat) → World → Prop) (W : World) (hW : Below w0.heap.size w0 W) (hJ : AbidesFrom W.heap.size J)
    (hY : ∀ pre x W1, J pre W1 → pre.length < countN (bs s) → YieldAt Fence.wide (n - 1) Tryd.prog l (encP x) W1 fun e W' =>
      (e = .returned (.bool true) ∧ J (pre ++ [x]) W' ∧ KpB w0.heap.size W1 W') ∨ (e = .returned (.bool false) ∧ Jx (pre ++ [x]) W'))
    (hB : W.cell? ⟨B, 0, none⟩ = some (.string s)) (h0 : J [] W) :
    CallsIn Fence.wide n Tryd.prog 55 #[.func (.yield l) #[] #[], .pointer (some ⟨B, 0, none⟩)] W fun e W' => (∃ v, e = .returned v) ∧
      ((∃ ys, ys = ups (backF (bs s)) (countN (bs s)) ∧ J ys W') ∨ (∃ pre, (∃ k, k ≤ countN (bs s) ∧ pre = ups (backF (bs s)) k) ∧ Jx pre W')) := by
  refine callsIn_of_wp Tryd.func55 rfl trivial ?_ rfl
  simp only [Tryd.ntmps55, List.size_toArray, List.length_cons, List.length_nil, Nat.reduceAdd, Nat.reduceSub, Array.replicate_succ, Array.replicate_zero, List.push_toArray, List.append_toArray, List.nil_append, List.cons_append]
  have HJ := Lib.hid hJ
  have HY := Lib.hid hY
  have HT := Lib.hid hT
  clear hJ hY hT
  gi_wp2
  gi_loopw [3] (fun rest wr => ∃ R : ByteArray, rest = .string R ∧ R.size ≤ s.size ∧ Below w0.heap.size w0 wr ∧ Hid (∃ k, k ≤ countN (bs s) ∧ bs R = (bs s).take (atN (bs s) (countN (bs s) - k)) ∧ J (ups (backF (bs s)) k) wr)) (fun rest _ => lenV rest)
  case atStart => exact ⟨s, rfl, Nat.le_refl _, hW, Lib.hid ⟨0, Nat.zero_le _, by rw [Nat.sub_zero, atN_full, List.take_length], h0⟩⟩
  case round =>
    obtain ⟨R, rfl, hRs, hbw, hh⟩ := hrel
    obtain ⟨k, hk, hR, hJs⟩ := hh.out
    clear hh
    by_cases hk1 : k < countN (bs s)
    · obtain ⟨m, hm⟩ : ∃ m, countN (bs s) - k = m + 1 := ⟨countN (bs s) - k - 1, by omega⟩
      have hmc : m < countN (bs s) := by omega
      rw [hm] at hR
      have hL := last_at_take (bs s) m hmc
      have hA := atN_succ (bs s) m hmc
      have hlc := (cut_at (bs s) (m + 1) hmc).1
      have hB1 : backF (bs s) k = (atN (bs s) m, ((tk (bs s))[m]?.getD (0, 0)).1) := by unfold backF allF; rw [show countN (bs s) - 1 - k = m by omega]
      rw [← hR] at hL
      have hw1 := (tk_wid (bs s) ((tk (bs s))[m]?.getD (0, 0)) (by rw [List.getElem?_eq_getElem hmc]; exact List.getElem_mem _)).1
      have hRl : R.size = atN (bs s) (m + 1) := by rw [size_bs, hR, List.length_take]; exact Nat.min_eq_left hlc
      obtain ⟨c, hc⟩ : ∃ c, c = (tk (bs s))[m]?.getD (0, 0) := ⟨_, rfl⟩
      rw [← hc] at hL hA hB1 hw1
      obtain ⟨r, wd⟩ := c
      simp only at hA hB1 hw1
      have hne : R.toList.isEmpty = false := notEmpty R (by omega)
      have hLA := fun w hT => last_some R (by omega) (by omega) w hT
      rw [hL] at hLA
      simp only at hLA
      have HLA := Lib.hid hLA
      have hTw := HT.out.below hbw (Nat.le_refl _)
      have HTW := Lib.hid hTw
      have hwR : wd ≤ R.size := by omega
      have hRd : bs (R.extract 0 (R.size - wd)) = (bs s).take (atN (bs s) m) := by
        rw [bs_take, hR, List.take_take]
        congr 1
        omega
      have hRz : (R.extract 0 (R.size - wd)).size = atN (bs s) m := by rw [size_bs, hRd, List.length_take]; omega
      clear hc hL hLA hTw hR
      have hUP : ups (backF (bs s)) k ++ [(atN (bs s) m, r)] = ups (backF (bs s)) (k + 1) := by rw [ups_succ, hB1]
      have HUP := Lib.hid hUP
      have HJs := Lib.hid hJs
      have hRs' : (R.extract 0 (atN (bs s) m)).size ≤ s.size := by rw [ByteArray.size_extract]; omega
      have hq : R.size - wd = atN (bs s) m := by omega
      rw [hq] at hRd hRz
      have hmk : countN (bs s) - (k + 1) = m := by omega
      have HRD := Lib.hid hRd
      clear hUP hJs hB1 hRd
      gi_wp2_with ((refine ⟨trivial, ?_⟩); gi_at_call 56; (with_reducible refine (callsIn_wide.2 (HLA.out _ HTW.out)).mono ?_); rintro e w1 ⟨rfl, hb1⟩; obtain ⟨fn, tmps, assign, body, hy, hR⟩ := HY.out _ (atN (bs s) m, r) w1 (HJ.out _ wr w1 none HJs.out (Below.grow hb1) (fun r e => by cases e)) (by rw [ups_length]; exact hk1); dsimp only [encP] at hy; have hbb := nx hbw hb1)
      refine hR.mono ?_
      rintro e W3 (⟨rfl, hJ3, hk3⟩ | ⟨rfl, hJx3⟩)
      · rw [HUP.out] at hJ3
        have HREL := Lib.hid (show ∃ k, k ≤ countN (bs s) ∧ bs (R.extract 0 (atN (bs s) m)) = (bs s).take (atN (bs s) (countN (bs s) - k)) ∧ J (ups (backF (bs s)) k) W3 from ⟨k + 1, by omega, by rw [hmk]; exact HRD.out, hJ3⟩)
        have hb3 := hbb.trans hk3.2
        clear hk3 hJ3
        gi_wp2
        go_roundw
        case rel => exact ⟨_, rfl, hRs', hb3, HREL⟩
        case measure =>
          show (R.extract 0 (atN (bs s) m)).size < R.size
          omega
      · rw [HUP.out] at hJx3
        gi_wp2
        refine bodyPost_ret (results_none rfl _ _ _) rfl ?_
        exact ⟨⟨_, rfl⟩, .inr ⟨_, ⟨k + 1, hk1, rfl⟩, hJx3⟩⟩
    · obtain rfl : k = countN (bs s) := by omega
      have hne : R.toList.isEmpty = true := isEmpty' R (by rw [size_bs, hR, Nat.sub_self, atN_zero]; rfl)
      have HJs := Lib.hid hJs
      clear hR hJs
      gi_wp2
      go_end0
      exact ⟨⟨_, rfl⟩, .inl ⟨_, rfl, HJs.out⟩⟩

/-- Back(s), as a range over it takes it. -/
theorem back_stops (n : Nat) (hn : 1 ≤ n) (B : Nat) (w0 : World) (hT : Tabs w0) (s : ByteArray) (hs : s.size ≤ 140737488351232) (w : World) (hw : Below w0.heap.size w0 w) (hB : w.cell? ⟨B, 0, none⟩ = some (.string s)) :
    SeqStopsK Fence.wide n Tryd.prog 55 #[.pointer (some ⟨B, 0, none⟩)] encP (KpB w0.heap.size) (fun ys => ys = ups (backF (bs s)) (countN (bs s))) (fun pre => ∃ k, k ≤ countN (bs s) ∧ pre = ups (backF (bs s)) k) (countN (bs s)) w :=
  fun l J Jx W hW hJ _ hY h0 => back1_in n hn l B w0 hT s hs J Jx W (hw.trans (hW.mono hw.size)) hJ hY ((hW.cell (p := ⟨B, 0, none⟩) (World.block_lt_of_cell? w _ hB)).trans hB) h0

/-! ### Wrong -/
/-- what a round keeps: and the box that is read -/
def KpW (C B : Nat) (W W' : World) : Prop := KpB B W W' ∧ W'.heap[C]? = W.heap[C]?
theorem kpW_t {C B : Nat} {X Y Z : World} (h : KpW C B X Y) (k : KpW C B Y Z) : KpW C B X Z := ⟨kpB_t h.1 k.1, k.2.trans h.2⟩
theorem kpW_b {C B : Nat} {w : World} (hC : C < w.heap.size) (hB : B ≤ w.heap.size) (W : World) (l : Nat) (o o' : Obj) (hl : w.heap.size ≤ l) (h : W.heap[l]? = some o) (hc : o.isCells = false) (hw : o.isWalk = false) : KpW C B W (W.putObj l o') :=
  ⟨kpB_b hB W l o o' hl h hc hw, World.putObj_heap_other (by omega)⟩
def isWrong (l : Bs) (k : Nat) : Bool := !(rightR ((tk l)[k]?.getD (0, 0)).1 ((tk l)[k]?.getD (0, 0)).2)
/-- the places of wrong bytes among the first k characters -/
def wrTo (l : Bs) (k : Nat) : List Nat := ((List.range k).filter (isWrong l)).map (atN l)
theorem wrTo_no (l : Bs) (k : Nat) (h : isWrong l k = false) : wrTo l (k + 1) = wrTo l k := by simp [wrTo, List.range_succ, h]
theorem wrTo_yes (l : Bs) (k : Nat) (h : isWrong l k = true) : wrTo l (k + 1) = wrTo l k ++ [atN l k] := by simp [wrTo, List.range_succ, h]
theorem wrTo_le (l : Bs) (k : Nat) : (wrTo l k).length ≤ k := by
  have := List.length_filter_le (isWrong l) (List.range k)
  simpa [wrTo] using this
theorem cellKeep {W W' : World} {g i : Nat} {v : Value} (h : W.cell? ⟨g, i, none⟩ = some v) (hb : Below W.heap.size W W') : W'.cell? ⟨g, i, none⟩ = some v :=
  (hb.cell (p := ⟨g, i, none⟩) (World.block_lt_of_cell? W _ h)).trans h
def encW (x : Nat) : Array Value := #[.int .i64 (x : Int)]

end Go.Proofs.YtkknmbkfiiidmaaDoor
