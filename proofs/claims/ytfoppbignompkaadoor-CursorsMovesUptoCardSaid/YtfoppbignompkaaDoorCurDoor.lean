/-
  A text, a cursor and a motion that are handed in: opened, field by field.
-/
import Derived.Test.YtfoppbignompkaaDoorCurM
import Derived.Test.YtfoppbignompkaaDoorDoor
import Derived.ShutString
import Derived.ChangeOld
import Derived.SizedLaws
namespace Go.Proofs.YtfoppbignompkaaDoor
open Go.ChangeShapes Go.WideShapes Go.ChangeAt Go.RowKit

theorem array7 {α : Type} {cs : Array α} (h : cs.size = 7) : ∃ c0 c1 c2 c3 c4 c5 c6, cs = #[c0, c1, c2, c3, c4, c5, c6] := by
  obtain ⟨l⟩ := cs
  match l, h with
  | [c0, c1, c2, c3, c4, c5, c6], _ => exact ⟨c0, c1, c2, c3, c4, c5, c6, rfl⟩
theorem list4 {α : Type} {cs : List α} (h : cs.length = 4) : ∃ c0 c1 c2 c3, cs = [c0, c1, c2, c3] := by
  match cs, h with
  | [c0, c1, c2, c3], _ => exact ⟨c0, c1, c2, c3, rfl⟩
theorem cells_int : Tryd.prog.cellsOf 3 = 1 := by kernel_rfl
theorem cells_u32 : Tryd.prog.cellsOf 34 = 1 := by kernel_rfl
theorem cells_string : Tryd.prog.cellsOf 9 = 1 := by kernel_rfl
theorem cells_bool : Tryd.prog.cellsOf 4 = 1 := by kernel_rfl
theorem cells_cursor : Tryd.prog.cellsOf 36 = 4 := by kernel_rfl
theorem cells_going : Tryd.prog.cellsOf 38 = 7 := by kernel_rfl

set_option maxRecDepth 100000 in
theorem open_going {H : Type} {enc : TypeId × Value → H} {W : World} {base : Nat} {spare : Nat → Bool} {held : Bool} {r : Reach} {b0 : Nat} {v : Value} {d : DataW H} {p : List MemPlace}
    (hv : Value.okWide Tryd.prog W r b0 38 v) (h : DataW.Trod enc Tryd.prog W base spare held 38 v d p) :
    ∃ (s : ByteArray) (i a b g m : Int) (k : Bool), v = goingV s i a b g m k ∧
      d = .agg [.lit (.string s.data.toList), .agg [.lit (.int .u32 i), .lit (.int .i64 a), .lit (.int .i64 b), .lit (.int .i64 g)], .lit (.int .i64 m), .lit (.bool k)] ∧ p = [] := by
  obtain ⟨cs, rfl, hsz⟩ := okWide_struct Tryd.underlying38 hv
  obtain ⟨c0, c1, c2, c3, c4, c5, c6, rfl⟩ := array7 (hsz.trans cells_going)
  obtain ⟨fuel, hf⟩ := h
  obtain ⟨xs, n, _, hx, _, hlen, hfs⟩ := DataW.trod_struct Tryd.underlying38 hf
  obtain ⟨x0, x1, x2, x3, rfl⟩ := list4 (hlen.trans rfl)
  have t0 := hfs 0 _ rfl
  have t1 := hfs 1 _ rfl
  have t2 := hfs 2 _ rfl
  have t3 := hfs 3 _ rfl
  simp [Value.cells, cells_int, cells_string, cells_bool, cells_cursor] at t0 t1 t2 t3
  obtain ⟨ys, n2, _, hy, _, hlen2, hgs⟩ := DataW.trod_struct Tryd.underlying36 t1
  obtain ⟨y0, y1, y2, y3, rfl⟩ := list4 (hlen2.trans rfl)
  have u0 := hgs 0 _ rfl
  have u1 := hgs 1 _ rfl
  have u2 := hgs 2 _ rfl
  have u3 := hgs 3 _ rfl
  simp [cells_int, cells_u32] at u0 u1 u2 u3
  obtain ⟨s, e0, rfl, _⟩ := DataW.trod_string Tryd.underlying9 t0
  obtain ⟨i, f0, rfl, _⟩ := DataW.trod_int Tryd.underlying34 u0
  obtain ⟨a, f1, rfl, _⟩ := DataW.trod_int Tryd.underlying3 u1
  obtain ⟨b, f2, rfl, _⟩ := DataW.trod_int Tryd.underlying3 u2
  obtain ⟨g, f3, rfl, _⟩ := DataW.trod_int Tryd.underlying3 u3
  obtain ⟨m, e2, rfl, _⟩ := DataW.trod_int Tryd.underlying3 t2
  obtain ⟨k, e3, rfl⟩ := DataW.trod_bool Tryd.underlying4 t3
  simp at e0 e2 e3 f0 f1 f2 f3 hy
  subst e0 e2 e3 f0 f1 f2 f3
  subst hy
  simp at hx
  exact ⟨s, i, a, b, g, m, k, rfl, hx.1, hx.2⟩
end Go.Proofs.YtfoppbignompkaaDoor
