/-
  A spot that is handed in: opened, field by field.
-/
import Derived.Test.YtebmjmohhpkonaaDoorDoor
import Derived.ChangeOld
import Derived.SizedLaws
namespace Go.Proofs.YtebmjmohhpkonaaDoor
open Go.ChangeShapes Go.WideShapes Go.ChangeAt Go.RowKit

theorem array2 {α : Type} {cs : Array α} (h : cs.size = 2) : ∃ c0 c1, cs = #[c0, c1] := by
  obtain ⟨l⟩ := cs
  match l, h with
  | [c0, c1], _ => exact ⟨c0, c1, rfl⟩
theorem list2 {α : Type} {cs : List α} (h : cs.length = 2) : ∃ c0 c1, cs = [c0, c1] := by
  match cs, h with
  | [c0, c1], _ => exact ⟨c0, c1, rfl⟩
theorem cells_int : Tryd.prog.cellsOf 3 = 1 := by kernel_rfl
theorem cells_spot : Tryd.prog.cellsOf 27 = 2 := by kernel_rfl

theorem open_spot {H : Type} {enc : TypeId × Value → H} {W : World} {base : Nat} {spare : Nat → Bool} {held : Bool} {r : Reach} {b0 : Nat} {v : Value} {d : DataW H} {p : List MemPlace}
    (hv : Value.okWide Tryd.prog W r b0 27 v) (h : DataW.Trod enc Tryd.prog W base spare held 27 v d p) :
    ∃ (b c : Int), v = .agg #[.int .i64 b, .int .i64 c] ∧ d = .agg [.lit (.int .i64 b), .lit (.int .i64 c)] ∧ p = [] ∧ (Lit.int .i64 b).wf = true ∧ (Lit.int .i64 c).wf = true := by
  obtain ⟨cs, rfl, hsz⟩ := okWide_struct Tryd.underlying27 hv
  obtain ⟨c0, c1, rfl⟩ := array2 (hsz.trans cells_spot)
  obtain ⟨fuel, hf⟩ := h
  obtain ⟨xs, n, _, hx, _, hlen, hfs⟩ := DataW.trod_struct Tryd.underlying27 hf
  obtain ⟨x0, x1, rfl⟩ := list2 (hlen.trans rfl)
  have t0 := hfs 0 _ rfl
  have t1 := hfs 1 _ rfl
  simp [Value.cells, cells_int] at t0 t1
  obtain ⟨b, e0, rfl, w0⟩ := DataW.trod_int Tryd.underlying3 t0
  obtain ⟨c, e1, rfl, w1⟩ := DataW.trod_int Tryd.underlying3 t1
  simp at e0 e1 hx
  subst e0 e1
  exact ⟨b, c, rfl, hx.1, hx.2, w0, w1⟩
end Go.Proofs.YtebmjmohhpkonaaDoor
