/-
  A tally that is handed in: opened, field by field, and how long its texts may be.
-/
import Derived.Test.YtpihmbdfhhjleaaDoorTalSeam
import Derived.Test.YtpihmbdfhhjleaaDoorDoor
import Derived.ShutString
import Derived.ChangeOld
import Derived.SizedLaws
namespace Go.Proofs.YtpihmbdfhhjleaaDoor
open Go.ChangeShapes Go.WideShapes Go.ChangeAt Go.RowKit

theorem array5 {α : Type} {cs : Array α} (h : cs.size = 5) : ∃ c0 c1 c2 c3 c4, cs = #[c0, c1, c2, c3, c4] := by
  obtain ⟨l⟩ := cs
  match l, h with
  | [c0, c1, c2, c3, c4], _ => exact ⟨c0, c1, c2, c3, c4, rfl⟩
theorem list5 {α : Type} {cs : List α} (h : cs.length = 5) : ∃ c0 c1 c2 c3 c4, cs = [c0, c1, c2, c3, c4] := by
  match cs, h with
  | [c0, c1, c2, c3, c4], _ => exact ⟨c0, c1, c2, c3, c4, rfl⟩

theorem cells_int : Tryd.prog.cellsOf 3 = 1 := by kernel_rfl
theorem cells_string : Tryd.prog.cellsOf 9 = 1 := by kernel_rfl
theorem cells_tally : Tryd.prog.cellsOf 23 = 5 := by kernel_rfl

theorem open_tally {H : Type} {enc : TypeId × Value → H} {W : World} {base : Nat} {spare : Nat → Bool} {held : Bool} {r : Reach} {b0 : Nat} {v : Value} {d : DataW H} {p : List MemPlace}
    (hv : Value.okWide Tryd.prog W r b0 23 v) (h : DataW.Trod enc Tryd.prog W base spare held 23 v d p) :
    ∃ (b c l : Int) (x y : ByteArray), v = .agg #[.int .i64 b, .int .i64 c, .int .i64 l, .string x, .string y] ∧
      d = .agg [.lit (.int .i64 b), .lit (.int .i64 c), .lit (.int .i64 l), .lit (.string x.data.toList), .lit (.string y.data.toList)] ∧ p = [] ∧
      (Lit.int .i64 b).wf = true ∧ (Lit.int .i64 c).wf = true ∧ (Lit.int .i64 l).wf = true := by
  obtain ⟨cs, rfl, hsz⟩ := okWide_struct Tryd.underlying23 hv
  obtain ⟨c0, c1, c2, c3, c4, rfl⟩ := array5 (hsz.trans cells_tally)
  obtain ⟨fuel, hf⟩ := h
  obtain ⟨xs, n, _, hx, _, hlen, hfs⟩ := DataW.trod_struct Tryd.underlying23 hf
  obtain ⟨x0, x1, x2, x3, x4, rfl⟩ := list5 (hlen.trans rfl)
  have t0 := hfs 0 _ rfl
  have t1 := hfs 1 _ rfl
  have t2 := hfs 2 _ rfl
  have t3 := hfs 3 _ rfl
  have t4 := hfs 4 _ rfl
  simp [Value.cells, cells_int, cells_string] at t0 t1 t2 t3 t4
  obtain ⟨b, e0, rfl, w0⟩ := DataW.trod_int Tryd.underlying3 t0
  obtain ⟨c, e1, rfl, w1⟩ := DataW.trod_int Tryd.underlying3 t1
  obtain ⟨l, e2, rfl, w2⟩ := DataW.trod_int Tryd.underlying3 t2
  obtain ⟨x, e3, rfl, _⟩ := DataW.trod_string Tryd.underlying9 t3
  obtain ⟨y, e4, rfl, _⟩ := DataW.trod_string Tryd.underlying9 t4
  simp at e0 e1 e2 e3 e4 hx
  subst e0 e1 e2 e3 e4
  exact ⟨b, c, l, x, y, rfl, hx.1, hx.2, w0, w1, w2⟩

theorem sized_tally {H : Type} {ts : List TypeId} {ds : List (DataW H)} (h : (DataW.weightsEach Tryd.prog ts ds).all (· ≤ reachBytes) = true) {j : Nat} {b c l : Int} {x y : List UInt8} (ht : ts[j]? = some 23)
    (hd : ds[j]? = some (.agg [.lit (.int .i64 b), .lit (.int .i64 c), .lit (.int .i64 l), .lit (.string x), .lit (.string y)])) : x.length ≤ 140737488351232 ∧ y.length ≤ 140737488351232 := by
  have h1 := List.all_eq_true.1 h _ (DataW.weights_mem_each ht hd x.length (by simp [DataW.weights, Tryd.underlying23, DataW.weightsEach]))
  have h2 := List.all_eq_true.1 h _ (DataW.weights_mem_each ht hd y.length (by simp [DataW.weights, Tryd.underlying23, DataW.weightsEach]))
  simp [reachBytes] at h1 h2
  exact ⟨of_decide_eq_true h1, of_decide_eq_true h2⟩

theorem fit_of {b c l : Int} {x y : ByteArray} (w0 : (Lit.int .i64 b).wf = true) (w1 : (Lit.int .i64 c).wf = true) (w2 : (Lit.int .i64 l).wf = true) (hx : x.data.toList.length ≤ 140737488351232 ∧ y.data.toList.length ≤ 140737488351232) : Fit b c l x y := by
  simp [Lit.wf] at w0 w1 w2
  have hm : IntKind.i64.min = -9223372036854775808 := rfl
  rw [hm] at w0 w1 w2
  exact ⟨by omega, by omega, by omega, by rw [Lib.size_eq]; exact hx.1, by rw [Lib.size_eq]; exact hx.2⟩
end Go.Proofs.YtpihmbdfhhjleaaDoor
