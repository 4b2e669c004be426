/-
  Blocks of two cells (a struct of two fields that a call has laid), and stores into them.
-/
import Derived.Test.YtfoppbignompkaaDoorIter
namespace Go.Proofs.YtfoppbignompkaaDoor
open Go.RowKit

theorem grownBy_set (W : World) (b i : Nat) (v : Value) : W.grownBy (W.setCell ⟨b, i, none⟩ v) (some b) :=
  ⟨rfl, rfl, rfl, (KeepsWalks.setCell W _ v).size, fun k _ hk => Below.heap_setCell _ _ _ k (fun e => hk (by rw [e]))⟩

theorem alloc_get (w : World) (o : Obj) (i : Nat) : (w.alloc o).heap[i]? = if i = w.heap.size then some o else w.heap[i]? := by
  show (w.heap.push o)[i]? = _
  rw [Array.getElem?_push]
/-- blocks laid one behind the other -/
def allocs (w : World) : List Obj → World
  | [] => w
  | o :: r => allocs (w.alloc o) r
theorem allocs_old : ∀ (os : List Obj) (w : World) (i : Nat), i < w.heap.size → (allocs w os).heap[i]? = w.heap[i]?
  | [], _, _, _ => rfl
  | o :: r, w, i, h => by
    show (allocs (w.alloc o) r).heap[i]? = _
    rw [allocs_old r (w.alloc o) i (by rw [World.size_alloc]; omega), alloc_get, if_neg (by omega)]
theorem allocs_get : ∀ (os : List Obj) (w : World) (i : Nat) (o : Obj), os[i]? = some o → (allocs w os).heap[w.heap.size + i]? = some o
  | [], _, _, _, h => by simp at h
  | x :: r, w, i, o, h => by
    show (allocs (w.alloc x) r).heap[w.heap.size + i]? = _
    cases i with
    | zero =>
      rw [Nat.add_zero, allocs_old r (w.alloc x) _ (by rw [World.size_alloc]; omega), alloc_get, if_pos rfl]
      simpa using h
    | succ i =>
      have := allocs_get r (w.alloc x) i o (by simpa using h)
      rw [World.size_alloc] at this
      rw [← this]
      congr 1
      omega
theorem allocs_size : ∀ (os : List Obj) (w : World), (allocs w os).heap.size = w.heap.size + os.length
  | [], _ => rfl
  | o :: r, w => by
    show (allocs (w.alloc o) r).heap.size = _
    rw [allocs_size r (w.alloc o), World.size_alloc, List.length_cons]
    omega
theorem allocs_below : ∀ (os : List Obj) (w w0 : World), Below w0.heap.size w0 w → Below w0.heap.size w0 (allocs w os)
  | [], _, _, h => h
  | o :: r, w, w0, h => allocs_below r (w.alloc o) w0 (al h o)

def Two (W : World) (B : Nat) (t : TypeId) (x y : Value) : Prop := W.heap[B]? = some (.cells #[x, y] t (0, 0))
theorem Two.lt {W : World} {B : Nat} {t : TypeId} {x y : Value} (h : Two W B t x y) : B < W.heap.size := (Array.getElem?_eq_some_iff.1 h).1
theorem Two.cell0 {W : World} {B : Nat} {t : TypeId} {x y : Value} (h : Two W B t x y) : W.cell? ⟨B, 0, none⟩ = some x := by simp [World.cell?, show W.heap[B]? = _ from h]
theorem Two.cell1 {W : World} {B : Nat} {t : TypeId} {x y : Value} (h : Two W B t x y) : W.cell? ⟨B, 1, none⟩ = some y := by simp [World.cell?, show W.heap[B]? = _ from h]
theorem Two.frozen0 {W : World} {B : Nat} {t : TypeId} {x y : Value} (h : Two W B t x y) : W.frozen? ⟨B, 0, none⟩ = false := by simp [World.frozen?, show W.heap[B]? = _ from h]
theorem Two.frozen1 {W : World} {B : Nat} {t : TypeId} {x y : Value} (h : Two W B t x y) : W.frozen? ⟨B, 1, none⟩ = false := by simp [World.frozen?, show W.heap[B]? = _ from h]
theorem Two.kept {W W' : World} {row : Option Nat} {B : Nat} {t : TypeId} {x y : Value} (h : Two W B t x y) (hg : W.grownBy W' row) (hne : some B ≠ row) : Two W' B t x y := (hg.block B h.lt hne).trans h
theorem Two.alloc {W : World} {B : Nat} {t : TypeId} {x y : Value} (h : Two W B t x y) (o : Obj) : Two (W.alloc o) B t x y := h.kept (World.grownBy_alloc W o none) (by simp)
theorem Two.new (W : World) (t : TypeId) (x y : Value) : Two (W.alloc (.cells #[x, y] t)) W.heap.size t x y := World.alloc_heap_new W _
theorem Two.set0 {W : World} {B : Nat} {t : TypeId} {x y : Value} (v : Value) (h : Two W B t x y) : Two (W.setCell ⟨B, 0, none⟩ v) B t v y := by
  obtain ⟨hlt, hk⟩ := Array.getElem?_eq_some_iff.1 h
  show (W.heap.modify B _)[B]? = _
  rw [Array.getElem?_eq_getElem (by rw [Array.size_modify]; exact hlt), Array.getElem_modify_self, hk]
  rfl
theorem Two.set1 {W : World} {B : Nat} {t : TypeId} {x y : Value} (v : Value) (h : Two W B t x y) : Two (W.setCell ⟨B, 1, none⟩ v) B t x v := by
  obtain ⟨hlt, hk⟩ := Array.getElem?_eq_some_iff.1 h
  show (W.heap.modify B _)[B]? = _
  rw [Array.getElem?_eq_getElem (by rw [Array.size_modify]; exact hlt), Array.getElem_modify_self, hk]
  rfl
theorem Two.other {W : World} {B B' : Nat} {t : TypeId} {x y : Value} (h : Two W B t x y) (hne : B ≠ B') (i : Nat) (u : Value) : Two (W.setCell ⟨B', i, none⟩ u) B t x y := h.kept (grownBy_set W B' i u) (fun e => hne (by cases e; rfl))
theorem boxOther {W : World} {B B' : Nat} {t : TypeId} {v : Value} (h : Boxed W B t v) (hne : B ≠ B') (i : Nat) (u : Value) : Boxed (W.setCell ⟨B', i, none⟩ u) B t v := h.kept (grownBy_set W B' i u) (fun e => hne (by cases e; rfl))
theorem two_own {β : Type} (B : Nat) (t : TypeId) (f g : β → Value) : Own (fun s W => Two W B t (f s) (g s)) := fun s X Y row hs hg hrow =>
  hs.kept hg (fun e' => by obtain ⟨o, ho, hc⟩ := hrow B e'.symm; rw [show X.heap[B]? = _ from hs] at ho; cases ho; cases hc)
/-- a block of two cells is no slice's own row of another type -/
theorem Two.not_row {W : World} {B : Nat} {t e : TypeId} {x y : Value} (h : Two W B t x y) (hte : t ≠ e) {base size k : Nat} {v : Value} {xs : List Value} (hr : W.ownsRow base e size v k xs) : some B ≠ v.ownBlock := by
  rcases hr.2 with ⟨rfl, _⟩ | ⟨g, cap, cur, rfl, _, hgb, _⟩
  · simp [Value.ownBlock]
  · intro e'
    obtain rfl : B = g := by simpa [Value.ownBlock] using e'
    have := (show W.heap[B]? = _ from h).symm.trans hgb
    simp at this
    exact hte this.2
theorem keepsOthers_below {W W' : World} (h : Below W.heap.size W W') : KeepsOthers W W' :=
  ⟨h.size, fun k _ hk _ => (h.block k (Array.getElem?_eq_some_iff.1 hk).1).trans hk⟩
/-- a block of more than two cells is another one -/
theorem Two.ne {W : World} {B g j : Nat} {t : TypeId} {x y v : Value} (h : Two W B t x y) (hc : W.cell? ⟨g, j, none⟩ = some v) (hj : 2 ≤ j) : g ≠ B := by
  intro e
  subst e
  simp [World.cell?, show W.heap[g]? = _ from h] at hc
  have : ([x, y] : List Value)[j]? = none := List.getElem?_eq_none (by simp; omega)
  rw [this] at hc
  cases hc
end Go.Proofs.YtfoppbignompkaaDoor
