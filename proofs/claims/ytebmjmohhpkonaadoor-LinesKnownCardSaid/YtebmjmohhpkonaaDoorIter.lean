/-
  The iterators over a text's characters: what each tells a round, whole and left early.
-/
import Derived.Test.YtebmjmohhpkonaaDoorSeam
import Derived.Test.YtebmjmohhpkonaaDoorReads
import Derived.RangeFuncNested
import Derived.RangeFuncBound
import Derived.RangeFuncLeaves
import Derived.OwnWalkIn
import Derived.TacticsInMore
import Derived.LoopNIn
import Derived.LoopIn
namespace Go.Proofs.YtebmjmohhpkonaaDoor
open Go.RowKit
attribute [local go_sem] Oper.semAt_some

/-- the first k values -/
def ups {α : Type} (f : Nat → α) (k : Nat) : List α := (List.range k).map f
theorem ups_succ {α : Type} (f : Nat → α) (k : Nat) : ups f (k + 1) = ups f k ++ [f k] := by simp [ups, List.range_succ]
theorem ups_length {α : Type} (f : Nat → α) (k : Nat) : (ups f k).length = k := by simp [ups]
theorem ups_get {α : Type} (f : Nat → α) (k i : Nat) (h : i < k) : (ups f k)[i]? = some (f i) := by simp [ups, h]
/-- a list that is the first k values is so at its own length; each of its last values is known -/
theorem ups_last {α : Type} {f : Nat → α} {k : Nat} {pre : List α} {x : α} (h : pre ++ [x] = ups f k) : k = pre.length + 1 ∧ x = f pre.length ∧ pre = ups f pre.length := by
  have hl := congrArg List.length h
  simp [ups_length] at hl
  subst hl
  rw [ups_succ] at h
  obtain ⟨h1, h2⟩ := List.append_inj' h rfl
  exact ⟨rfl, by simpa using h2, h1⟩

/-- what a round keeps: walks' objects, and what lay below -/
def KpB (B : Nat) (W W' : World) : Prop := KeepsWalks W W' ∧ Below B W W'
theorem kpB_t {B : Nat} {X Y Z : World} (h : KpB B X Y) (k : KpB B Y Z) : KpB B X Z := ⟨h.1.trans k.1, h.2.trans k.2⟩
theorem kpB_b {B : Nat} {w : World} (hB : B ≤ w.heap.size) (W : World) (l : Nat) (o o' : Obj) (hl : w.heap.size ≤ l) (h : W.heap[l]? = some o) (hc : o.isCells = false) (hw : o.isWalk = false) : KpB B W (W.putObj l o') :=
  ⟨walksK_b W l o o' hl h hc hw, belowK_b hB W l o o' hl h hc hw⟩

theorem Below.grow {w w' : World} (h : Below w.heap.size w w') : w.grownBy w' none := ⟨h.os, h.tape, h.output, h.size, fun k hk _ => h.block k hk⟩

/-- place and rune of a character -/
def allF (l : Bs) (k : Nat) : Nat × Nat := (atN l k, ((tk l)[k]?.getD (0, 0)).1)
/-- .. from the last one on -/
def backF (l : Bs) (k : Nat) : Nat × Nat := allF l (countN l - 1 - k)
def encP (x : Nat × Nat) : Array Value := #[.int .i64 (x.1 : Int), .int .i32 (x.2 : Int)]

theorem Cut.get {l : Bs} {done : List (Nat × Nat)} {p : Nat} (h : Cut l done p) (hp : p < l.length) : (tk l)[done.length]?.getD (0, 0) = Lib.decodeL (l.drop p) := by
  have hne : l.drop p ≠ [] := by intro e; have := congrArg List.length e; simp at this; omega
  rw [h.2.1, tk_cons _ hne]
  simp
theorem Cut.allF {l : Bs} {done : List (Nat × Nat)} {p : Nat} (h : Cut l done p) (hp : p < l.length) : allF l done.length = (p, (Lib.decodeL (l.drop p)).1) := by
  unfold Go.Proofs.YtebmjmohhpkonaaDoor.allF
  rw [h.at', h.get hp]

/-! ### Back -/
theorem atN_zero (l : Bs) : atN l 0 = 0 := by simp [atN, wsum]
theorem atN_succ (l : Bs) (m : Nat) (h : m < countN l) : atN l (m + 1) = atN l m + ((tk l)[m]?.getD (0, 0)).2 := by
  have h1 : m < (tk l).length := h
  unfold atN
  rw [List.take_succ_eq_append_getElem h1, wsum_append, wsum_cons, wsum_nil, List.getElem?_eq_getElem h1]
  rfl
theorem took_at (l : Bs) (m : Nat) (h : m ≤ countN l) : tk (l.take (atN l m)) = (tk l).take m := by
  have hc := cut_at l m h
  have hl : (l.take (atN l m)).length = atN l m := by rw [List.length_take]; exact Nat.min_eq_left hc.1
  have e := tk_append _ (l.take (atN l m)) (l.drop (atN l m)) (Nat.le_refl _) (by rw [List.take_append_drop, hl]; exact ⟨_, hc⟩)
  rw [List.take_append_drop] at e
  have h2 : tk (l.take (atN l m)) ++ tk (l.drop (atN l m)) = (tk l).take m ++ tk (l.drop (atN l m)) := e.symm.trans hc.2.1
  exact List.append_cancel_right h2
theorem last_at_take (l : Bs) (m : Nat) (h : m < countN l) : lastC (l.take (atN l (m + 1))) = (tk l)[m]?.getD (0, 0) := by
  have h1 : m < (tk l).length := h
  unfold lastC
  rw [took_at l (m + 1) h, List.take_succ_eq_append_getElem h1, List.getLast?_append, List.getElem?_eq_getElem h1]
  simp
theorem toList_len (R : ByteArray) : R.toList.length = R.size := by
  rw [ByteArray.toList_eq]
  exact Array.length_toList
theorem notEmpty (R : ByteArray) (h : 1 ≤ R.size) : R.toList.isEmpty = false := by
  rw [← toList_len] at h
  cases he : R.toList
  · rw [he] at h; simp at h
  · rfl
theorem isEmpty' (R : ByteArray) (h : R.size = 0) : R.toList.isEmpty = true := by
  rw [← toList_len] at h
  rw [List.length_eq_zero_iff.1 h]
  rfl
def lenV : Value → Nat
  | .string s => s.size
  | _ => 0

/-! ### Wrong -/
/-- what a round keeps: and the box that is read -/
def KpW (C B : Nat) (W W' : World) : Prop := KpB B W W' ∧ W'.heap[C]? = W.heap[C]?
theorem kpW_t {C B : Nat} {X Y Z : World} (h : KpW C B X Y) (k : KpW C B Y Z) : KpW C B X Z := ⟨kpB_t h.1 k.1, k.2.trans h.2⟩
theorem kpW_b {C B : Nat} {w : World} (hC : C < w.heap.size) (hB : B ≤ w.heap.size) (W : World) (l : Nat) (o o' : Obj) (hl : w.heap.size ≤ l) (h : W.heap[l]? = some o) (hc : o.isCells = false) (hw : o.isWalk = false) : KpW C B W (W.putObj l o') :=
  ⟨kpB_b hB W l o o' hl h hc hw, World.putObj_heap_other (by omega)⟩
def isWrong (l : Bs) (k : Nat) : Bool := !(rightR ((tk l)[k]?.getD (0, 0)).1 ((tk l)[k]?.getD (0, 0)).2)
/-- the places of wrong bytes among the first k characters -/
def wrTo (l : Bs) (k : Nat) : List Nat := ((List.range k).filter (isWrong l)).map (atN l)
theorem wrTo_no (l : Bs) (k : Nat) (h : isWrong l k = false) : wrTo l (k + 1) = wrTo l k := by simp [wrTo, List.range_succ, h]
theorem wrTo_yes (l : Bs) (k : Nat) (h : isWrong l k = true) : wrTo l (k + 1) = wrTo l k ++ [atN l k] := by simp [wrTo, List.range_succ, h]
theorem wrTo_le (l : Bs) (k : Nat) : (wrTo l k).length ≤ k := by
  have := List.length_filter_le (isWrong l) (List.range k)
  simpa [wrTo] using this
theorem cellKeep {W W' : World} {g i : Nat} {v : Value} (h : W.cell? ⟨g, i, none⟩ = some v) (hb : Below W.heap.size W W') : W'.cell? ⟨g, i, none⟩ = some v :=
  (hb.cell (p := ⟨g, i, none⟩) (World.block_lt_of_cell? W _ h)).trans h
def encW (x : Nat) : Array Value := #[.int .i64 (x : Int)]

end Go.Proofs.YtebmjmohhpkonaaDoor
