/-
  The struct of KindsAdd that is handed in: opened, field by field.
-/
import Derived.Test.YtkknmbkfiiidmaaDoorDoor
import Derived.ChangeOld
import Derived.SizedLaws
namespace Go.Proofs.YtkknmbkfiiidmaaDoor
open Go.ChangeShapes Go.WideShapes Go.ChangeAt Go.RowKit

theorem array4 {α : Type} {cs : Array α} (h : cs.size = 4) : ∃ c0 c1 c2 c3, cs = #[c0, c1, c2, c3] := by
  obtain ⟨l⟩ := cs
  match l, h with
  | [c0, c1, c2, c3], _ => exact ⟨c0, c1, c2, c3, rfl⟩
theorem list4 {α : Type} {cs : List α} (h : cs.length = 4) : ∃ c0 c1 c2 c3, cs = [c0, c1, c2, c3] := by
  match cs, h with
  | [c0, c1, c2, c3], _ => exact ⟨c0, c1, c2, c3, rfl⟩
theorem cells_string : Tryd.prog.cellsOf 9 = 1 := by kernel_rfl
theorem cells_int : Tryd.prog.cellsOf 3 = 1 := by kernel_rfl
theorem cells_sums : Tryd.prog.cellsOf 34 = 4 := by kernel_rfl

theorem open_sums {H : Type} {enc : TypeId × Value → H} {W : World} {base : Nat} {spare : Nat → Bool} {held : Bool} {r : Reach} {b0 : Nat} {v : Value} {d : DataW H} {p : List MemPlace}
    (hv : Value.okWide Tryd.prog W r b0 34 v) (h : DataW.Trod enc Tryd.prog W base spare held 34 v d p) :
    ∃ (x y : ByteArray) (b c : Int), v = .agg #[.string x, .string y, .int .i64 b, .int .i64 c] ∧ d = .agg [.lit (.string x.data.toList), .lit (.string y.data.toList), .lit (.int .i64 b), .lit (.int .i64 c)] ∧ p = [] ∧ (Lit.int .i64 b).wf = true ∧ (Lit.int .i64 c).wf = true := by
  obtain ⟨cs, rfl, hsz⟩ := okWide_struct Tryd.underlying34 hv
  obtain ⟨c0, c1, c2, c3, rfl⟩ := array4 (hsz.trans cells_sums)
  obtain ⟨fuel, hf⟩ := h
  obtain ⟨xs, n, _, hx, _, hlen, hfs⟩ := DataW.trod_struct Tryd.underlying34 hf
  obtain ⟨x0, x1, x2, x3, rfl⟩ := list4 (hlen.trans rfl)
  have t0 := hfs 0 _ rfl
  have t1 := hfs 1 _ rfl
  have t2 := hfs 2 _ rfl
  have t3 := hfs 3 _ rfl
  simp [Value.cells, cells_int, cells_string] at t0 t1 t2 t3
  obtain ⟨x, e0, rfl, _⟩ := DataW.trod_string Tryd.underlying9 t0
  obtain ⟨y, e1, rfl, _⟩ := DataW.trod_string Tryd.underlying9 t1
  obtain ⟨b, e2, rfl, w2⟩ := DataW.trod_int Tryd.underlying3 t2
  obtain ⟨c, e3, rfl, w3⟩ := DataW.trod_int Tryd.underlying3 t3
  simp at e0 e1 e2 e3 hx
  subst e0 e1 e2 e3
  exact ⟨x, y, b, c, rfl, hx.1, hx.2, w2, w3⟩
end Go.Proofs.YtkknmbkfiiidmaaDoor
