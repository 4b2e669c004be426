/-
  The contracts of the document's closed, beginning and Pending.
-/
import Derived.Test.YtkknmbkfiiidmaaDoorRefFirst2
namespace Go.Proofs.YtkknmbkfiiidmaaDoor
open Go.RowKit

/-- is a text one right sequence? -/
def seqB (l : Bs) : Bool := !l.isEmpty && (rightR (Lib.decodeL l).1 (Lib.decodeL l).2 && decide ((Lib.decodeL l).2 = l.length))
def nexts : List Nat := [128, 143, 144, 159, 160, 191]
def closedB (l : Bs) : Nat → Bool
  | 0 => seqB l
  | m + 1 => seqB l || nexts.any fun b => closedB (l ++ [UInt8.ofNat b]) m

theorem conv_new {P : Program} (src e dst : TypeId) (hs : P.underlying src = some (.slice e)) (he : P.underlying e = some (.int .u8)) (hd : P.underlying dst = some .string) (x : Int) (W : World) :
    (convert src dst (.slice (some ⟨W.heap.size, 0, none⟩) 1 1)).run P (W.alloc (.cells #[.int .u8 x] e)) = .ok (.string (strOfNums [x])) (W.alloc (.cells #[.int .u8 x] e)) := by
  refine run_convert_bytes_arg _ src e hs he _ 0 1 1 [x] rfl (fun i hi => ?_) dst hd
  obtain rfl : i = 0 := by omega
  simp

theorem bs_snoc (s : ByteArray) (b : Nat) (_h : b < 256) : bs (s ++ strOfNums [(b : Int)]) = bs s ++ [UInt8.ofNat b] := by
  unfold bs
  rw [ByteArray.data_append, Array.toList_append, strOfNums_data]
  simp

theorem any_cons_false {α : Type} {p : α → Bool} {l : List α} : l.any p = false ↔ ∀ x ∈ l, p x = false := by
  simp

def nextsObj : Obj := .cells #[.int .u8 128, .int .u8 143, .int .u8 144, .int .u8 159, .int .u8 160, .int .u8 191] 5
theorem nexts_cell (w : World) (j : Nat) (h : j < 6) : (w.alloc nextsObj).cell? ⟨w.heap.size, j, none⟩ = some (.int .u8 ((nexts[j]?.getD 0 : Nat) : Int)) := by
  unfold nextsObj
  match j, h with
  | 0, _ => simp [nexts]
  | 1, _ => simp [nexts]
  | 2, _ => simp [nexts]
  | 3, _ => simp [nexts]
  | 4, _ => simp [nexts]
  | 5, _ => simp [nexts]
theorem nexts_lt (j : Nat) (h : j < 6) : nexts[j]?.getD 0 < 256 ∧ nexts[j]?.getD 0 ∈ nexts := by
  match j, h with
  | 0, _ => simp [nexts]
  | 1, _ => simp [nexts]
  | 2, _ => simp [nexts]
  | 3, _ => simp [nexts]
  | 4, _ => simp [nexts]
  | 5, _ => simp [nexts]
theorem nexts_any {p : Nat → Bool} (h : ∀ j, j < 6 → p (nexts[j]?.getD 0) = false) : nexts.any p = false := by
  rw [any_cons_false]
  intro x hx
  obtain ⟨j, hj, rfl⟩ := List.mem_iff_getElem.1 hx
  have := h j hj
  rwa [List.getElem?_eq_getElem hj] at this

end Go.Proofs.YtkknmbkfiiidmaaDoor
