/-
  A change that is handed in (a text, an edit, two places): opened, field by field.
-/
import Derived.Test.YtfoppbignompkaaDoorCurFollow
import Derived.Test.YtfoppbignompkaaDoorDoor
import Derived.ShutString
import Derived.ChangeOld
import Derived.SizedLaws
namespace Go.Proofs.YtfoppbignompkaaDoor
open Go.ChangeShapes Go.WideShapes Go.ChangeAt Go.RowKit

theorem array6 {α : Type} {cs : Array α} (h : cs.size = 6) : ∃ c0 c1 c2 c3 c4 c5, cs = #[c0, c1, c2, c3, c4, c5] := by
  obtain ⟨l⟩ := cs
  match l, h with
  | [c0, c1, c2, c3, c4, c5], _ => exact ⟨c0, c1, c2, c3, c4, c5, rfl⟩
theorem list6 {α : Type} {cs : List α} (h : cs.length = 6) : ∃ c0 c1 c2 c3 c4 c5, cs = [c0, c1, c2, c3, c4, c5] := by
  match cs, h with
  | [c0, c1, c2, c3, c4, c5], _ => exact ⟨c0, c1, c2, c3, c4, c5, rfl⟩
theorem cells_intH : Tryd.prog.cellsOf 3 = 1 := by kernel_rfl
theorem cells_stringH : Tryd.prog.cellsOf 9 = 1 := by kernel_rfl
theorem cells_change : Tryd.prog.cellsOf 59 = 6 := by kernel_rfl

set_option maxRecDepth 100000 in
theorem open_change {H : Type} {enc : TypeId × Value → H} {W : World} {base : Nat} {spare : Nat → Bool} {held : Bool} {r : Reach} {b0 : Nat} {v : Value} {d : DataW H} {p : List MemPlace}
    (hv : Value.okWide Tryd.prog W r b0 59 v) (h : DataW.Trod enc Tryd.prog W base spare held 59 v d p) :
    ∃ (t i : ByteArray) (a o b c : Int), v = changeV t a o i b c ∧
      d = .agg [.lit (.string t.data.toList), .lit (.int .i64 a), .lit (.int .i64 o), .lit (.string i.data.toList), .lit (.int .i64 b), .lit (.int .i64 c)] ∧ p = [] := by
  obtain ⟨cs, rfl, hsz⟩ := okWide_struct Tryd.underlying59 hv
  obtain ⟨c0, c1, c2, c3, c4, c5, rfl⟩ := array6 (hsz.trans cells_change)
  obtain ⟨fuel, hf⟩ := h
  obtain ⟨xs, n, _, hx, _, hlen, hfs⟩ := DataW.trod_struct Tryd.underlying59 hf
  obtain ⟨x0, x1, x2, x3, x4, x5, rfl⟩ := list6 (hlen.trans rfl)
  have t0 := hfs 0 _ rfl
  have t1 := hfs 1 _ rfl
  have t2 := hfs 2 _ rfl
  have t3 := hfs 3 _ rfl
  have t4 := hfs 4 _ rfl
  have t5 := hfs 5 _ rfl
  simp [Value.cells, cells_intH, cells_stringH] at t0 t1 t2 t3 t4 t5
  obtain ⟨t, e0, rfl, _⟩ := DataW.trod_string Tryd.underlying9 t0
  obtain ⟨a, e1, rfl, _⟩ := DataW.trod_int Tryd.underlying3 t1
  obtain ⟨o, e2, rfl, _⟩ := DataW.trod_int Tryd.underlying3 t2
  obtain ⟨i, e3, rfl, _⟩ := DataW.trod_string Tryd.underlying9 t3
  obtain ⟨b, e4, rfl, _⟩ := DataW.trod_int Tryd.underlying3 t4
  obtain ⟨c, e5, rfl, _⟩ := DataW.trod_int Tryd.underlying3 t5
  simp at e0 e1 e2 e3 e4 e5 hx
  subst e0 e1 e2 e3 e4 e5
  exact ⟨t, i, a, o, b, c, rfl, hx.1, hx.2⟩
theorem sized_change {H : Type} {ts : List TypeId} {ds : List (DataW H)} (h : (DataW.weightsEach Tryd.prog ts ds).all (· ≤ reachBytes) = true) {j : Nat} {a o b c : Int} {x y : List UInt8} (ht : ts[j]? = some 59)
    (hd : ds[j]? = some (.agg [.lit (.string x), .lit (.int .i64 a), .lit (.int .i64 o), .lit (.string y), .lit (.int .i64 b), .lit (.int .i64 c)])) : x.length ≤ 140737488351232 ∧ y.length ≤ 140737488351232 := by
  have h1 := List.all_eq_true.1 h _ (DataW.weights_mem_each ht hd x.length (by simp [DataW.weights, Tryd.underlying59, DataW.weightsEach]))
  have h2 := List.all_eq_true.1 h _ (DataW.weights_mem_each ht hd y.length (by simp [DataW.weights, Tryd.underlying59, DataW.weightsEach]))
  simp [reachBytes] at h1 h2
  exact ⟨of_decide_eq_true h1, of_decide_eq_true h2⟩
end Go.Proofs.YtfoppbignompkaaDoor
