/-
  Lists of cursors, a cursor and an edit that are handed in: opened, field by field.
-/
import Derived.Test.YtfoppbignompkaaDoorCurSame
import Derived.Test.YtfoppbignompkaaDoorDoor
import Derived.Deep.Slices
import Derived.ShutString
import Derived.ChangeOld
import Derived.SizedLaws
namespace Go.Proofs.YtfoppbignompkaaDoor
open Go.ChangeShapes Go.WideShapes Go.ChangeAt Go.RowKit Go.Deep

theorem arrayC4 {α : Type} {cs : Array α} (h : cs.size = 4) : ∃ c0 c1 c2 c3, cs = #[c0, c1, c2, c3] := by
  obtain ⟨l⟩ := cs
  match l, h with
  | [c0, c1, c2, c3], _ => exact ⟨c0, c1, c2, c3, rfl⟩
theorem arrayC3 {α : Type} {cs : Array α} (h : cs.size = 3) : ∃ c0 c1 c2, cs = #[c0, c1, c2] := by
  obtain ⟨l⟩ := cs
  match l, h with
  | [c0, c1, c2], _ => exact ⟨c0, c1, c2, rfl⟩
theorem listC4 {α : Type} {cs : List α} (h : cs.length = 4) : ∃ c0 c1 c2 c3, cs = [c0, c1, c2, c3] := by
  match cs, h with
  | [c0, c1, c2, c3], _ => exact ⟨c0, c1, c2, c3, rfl⟩
theorem listC3 {α : Type} {cs : List α} (h : cs.length = 3) : ∃ c0 c1 c2, cs = [c0, c1, c2] := by
  match cs, h with
  | [c0, c1, c2], _ => exact ⟨c0, c1, c2, rfl⟩
theorem cells_intC : Tryd.prog.cellsOf 3 = 1 := by kernel_rfl
theorem cells_u32C : Tryd.prog.cellsOf 34 = 1 := by kernel_rfl
theorem cells_curC : Tryd.prog.cellsOf 36 = 4 := by kernel_rfl
theorem cells_editC : Tryd.prog.cellsOf 24 = 3 := by kernel_rfl
/-- the bounds of a cursor's numbers -/
def CuB (c : Cu) : Prop := (0 ≤ c.1 ∧ c.1 ≤ 4294967295) ∧ (-9223372036854775808 ≤ c.2.1 ∧ c.2.1 ≤ 9223372036854775807) ∧ (-9223372036854775808 ≤ c.2.2.1 ∧ c.2.2.1 ≤ 9223372036854775807) ∧ (-9223372036854775808 ≤ c.2.2.2 ∧ c.2.2.2 ≤ 9223372036854775807)
theorem ints_of {zs : List Cu} (h : ∀ c ∈ zs, CuB c) : IntsC zs := fun k hk => by
  have := h _ (List.getElem_mem hk)
  rw [List.getElem?_eq_getElem hk]
  exact ⟨this.2.1.2, this.2.2.1.2, this.2.2.2.2⟩
theorem words_of {zs : List Cu} (h : ∀ c ∈ zs, CuB c) : WordsC zs := fun k hk => by
  have := h _ (List.getElem_mem hk)
  rw [List.getElem?_eq_getElem hk]
  exact this.1

theorem trod_cu {H : Type} {enc : TypeId × Value → H} {W : World} {base : Nat} {spare : Nat → Bool} {held : Bool} {fuel : Nat} {cs : List Value} {y : DataW H × List MemPlace}
    (hf : DataW.trod enc Tryd.prog W base spare held fuel 36 cs = some y) : ∃ x : Cu, cs = cuC x ∧ (∃ ps, y.1 = .agg ps) ∧ y = (.agg [.lit (.int .u32 x.1), .lit (.int .i64 x.2.1), .lit (.int .i64 x.2.2.1), .lit (.int .i64 x.2.2.2)], []) ∧ CuB x := by
  obtain ⟨xs, n, _, hx, hcl, hlen, hfs⟩ := DataW.trod_struct Tryd.underlying36 hf
  obtain ⟨c0, c1, c2, c3, rfl⟩ := listC4 (hcl.trans cells_curC)
  obtain ⟨x0, x1, x2, x3, rfl⟩ := listC4 (hlen.trans rfl)
  have t0 := hfs 0 _ rfl
  have t1 := hfs 1 _ rfl
  have t2 := hfs 2 _ rfl
  have t3 := hfs 3 _ rfl
  simp [cells_intC, cells_u32C] at t0 t1 t2 t3
  obtain ⟨i, e0, rfl, w0⟩ := DataW.trod_int Tryd.underlying34 t0
  obtain ⟨a, e1, rfl, w1⟩ := DataW.trod_int Tryd.underlying3 t1
  obtain ⟨d, e2, rfl, w2⟩ := DataW.trod_int Tryd.underlying3 t2
  obtain ⟨g, e3, rfl, w3⟩ := DataW.trod_int Tryd.underlying3 t3
  simp at e0 e1 e2 e3
  subst e0 e1 e2 e3
  exact ⟨(i, a, d, g), rfl, ⟨_, by rw [hx]⟩, by rw [hx]; rfl, bounds_u32 w0, bounds_i64 w1, bounds_i64 w2, bounds_i64 w3⟩

set_option maxRecDepth 100000 in
theorem open_cursor {H : Type} {enc : TypeId × Value → H} {W : World} {base : Nat} {spare : Nat → Bool} {held : Bool} {r : Reach} {b0 : Nat} {v : Value} {d : DataW H} {p : List MemPlace}
    (hv : Value.okWide Tryd.prog W r b0 36 v) (h : DataW.Trod enc Tryd.prog W base spare held 36 v d p) :
    ∃ c : Cu, v = .agg #[.int .u32 c.1, .int .i64 c.2.1, .int .i64 c.2.2.1, .int .i64 c.2.2.2] ∧ d = .agg [.lit (.int .u32 c.1), .lit (.int .i64 c.2.1), .lit (.int .i64 c.2.2.1), .lit (.int .i64 c.2.2.2)] ∧ p = [] ∧ CuB c := by
  obtain ⟨cs, rfl, hsz⟩ := okWide_struct Tryd.underlying36 hv
  obtain ⟨c0, c1, c2, c3, rfl⟩ := arrayC4 (hsz.trans cells_curC)
  obtain ⟨fuel, hf⟩ := h
  obtain ⟨x, hx, -, hy, hb⟩ := trod_cu hf
  have hcs : [c0, c1, c2, c3] = cuC x := by simpa [Value.cells] using hx
  simp only [cuC, List.cons.injEq, and_true] at hcs
  obtain ⟨rfl, rfl, rfl, rfl⟩ := hcs
  obtain ⟨rfl, rfl⟩ := Prod.mk.inj hy
  exact ⟨x, rfl, rfl, rfl, hb⟩
set_option maxRecDepth 100000 in
theorem open_edit {H : Type} {enc : TypeId × Value → H} {W : World} {base : Nat} {spare : Nat → Bool} {held : Bool} {r : Reach} {b0 : Nat} {v : Value} {d : DataW H} {p : List MemPlace}
    (hv : Value.okWide Tryd.prog W r b0 24 v) (h : DataW.Trod enc Tryd.prog W base spare held 24 v d p) :
    ∃ a o i : Int, v = .agg #[.int .i64 a, .int .i64 o, .int .i64 i] ∧ d = .agg [.lit (.int .i64 a), .lit (.int .i64 o), .lit (.int .i64 i)] ∧ p = [] ∧
      (-9223372036854775808 ≤ a ∧ a ≤ 9223372036854775807) ∧ (-9223372036854775808 ≤ o ∧ o ≤ 9223372036854775807) ∧ (-9223372036854775808 ≤ i ∧ i ≤ 9223372036854775807) := by
  obtain ⟨cs, rfl, hsz⟩ := okWide_struct Tryd.underlying24 hv
  obtain ⟨c0, c1, c2, rfl⟩ := arrayC3 (hsz.trans cells_editC)
  obtain ⟨fuel, hf⟩ := h
  obtain ⟨xs, n, _, hx, hcl, hlen, hfs⟩ := DataW.trod_struct Tryd.underlying24 hf
  obtain ⟨x0, x1, x2, rfl⟩ := listC3 (hlen.trans rfl)
  have t0 := hfs 0 _ rfl
  have t1 := hfs 1 _ rfl
  have t2 := hfs 2 _ rfl
  simp [Value.cells, cells_intC] at t0 t1 t2
  obtain ⟨a, e0, rfl, w0⟩ := DataW.trod_int Tryd.underlying3 t0
  obtain ⟨o, e1, rfl, w1⟩ := DataW.trod_int Tryd.underlying3 t1
  obtain ⟨i, e2, rfl, w2⟩ := DataW.trod_int Tryd.underlying3 t2
  simp at e0 e1 e2 hx
  subst e0 e1 e2
  exact ⟨a, o, i, rfl, hx.1, hx.2, bounds_i64 w0, bounds_i64 w1, bounds_i64 w2⟩

set_option maxRecDepth 100000 in
theorem open_cursors {H : Type} {enc : TypeId × Value → H} {W : World} {base : Nat} {spare : Nat → Bool} {held : Bool} {r : Reach} {b0 : Nat} {v : Value} {d : DataW H} {p : List MemPlace}
    (hv : Value.okWide Tryd.prog W r b0 22 v) (h : DataW.Trod enc Tryd.prog W base spare held 22 v d p) (hw : ∀ n ∈ DataW.weights Tryd.prog 22 d, n ≤ reachBytes) :
    ∃ (ao : Option Addr) (n cap : Nat) (zs : List Cu), v = .slice ao n cap ∧ zs.length = n ∧ n ≤ 4398046510976 ∧ SrcC W ao cap zs ∧ ∀ c ∈ zs, CuB c := by
  obtain ⟨ao, n, cap, rfl⟩ := okWide_slice Tryd.underlying22 hv
  obtain ⟨fuel, hf⟩ := h
  rcases open_slice Tryd.underlying22 hf with ⟨hcs, _⟩ | ⟨a, len, cap', m, n', D, Pl, hcs, hba, hlc, _, hm, hx, hall⟩
  · simp [Value.cells] at hcs
    obtain ⟨rfl, rfl, rfl⟩ := hcs
    exact ⟨none, 0, 0, [], rfl, rfl, by omega, .inl ⟨rfl, rfl, rfl⟩, fun c hc => by cases hc⟩
  · simp [Value.cells] at hcs
    obtain ⟨rfl, rfl, rfl⟩ := hcs
    have hd : d = .slice ((List.range n).map D) ((List.range (m - n)).map fun j => D (n + j)) := congrArg Prod.fst hx
    subst hd
    have hnm : n ≤ m := by rw [hm]; split <;> omega
    have hbytes := hw ((((List.range n).map D).length + ((List.range (m - n)).map fun j => D (n + j)).length) * Tryd.prog.bytesOf 36) (by simp [DataW.weights, Tryd.underlying22])
    have hb32 : Tryd.prog.bytesOf 36 = 32 := by kernel_rfl
    rw [hb32] at hbytes
    simp [reachBytes] at hbytes
    have key : ∀ i, i < n → ∃ x : Cu, CuB x ∧ ∀ j, j < 4 → W.cell? (a.add (i * 4 + j)) = (cuC x)[j]? := by
      intro i hi
      obtain ⟨cs', hc, ht⟩ := hall i (by omega)
      rw [cells_curC] at hc
      obtain ⟨x, rfl, -, -, hb⟩ := trod_cu ht
      obtain ⟨_, hlen, hcell⟩ := World.cells?_some hc
      refine ⟨x, hb, fun j hj => ?_⟩
      have := hcell j hj
      rwa [Addr.add_add] at this
    obtain ⟨f, hf⟩ : ∃ f : Nat → Cu, ∀ i, i < n → (CuB (f i) ∧ ∀ j, j < 4 → W.cell? (a.add (i * 4 + j)) = (cuC (f i))[j]?) := choose_lt key
    have hget : ∀ i, i < n → ((List.range n).map f)[i]?.getD cuZ = f i := fun i hi => by
      rw [List.getElem?_map, List.getElem?_range hi]
      rfl
    refine ⟨some a, n, cap, (List.range n).map f, rfl, by simp, by omega, .inr ⟨a, rfl, fun j u hj => ?_⟩, fun c hc => ?_⟩
    · obtain ⟨hjl, _⟩ := List.getElem?_eq_some_iff.1 hj
      rw [flat4c_len, List.length_map, List.length_range] at hjl
      have hi : j / 4 < n := by omega
      have h4 : j % 4 < 4 := by omega
      have hjd : j / 4 * 4 + j % 4 = j := by omega
      have h1 := flat4c_at ((List.range n).map f) (j / 4) (j % 4) (by simpa using hi) h4
      rw [hjd, hget _ hi, hj] at h1
      have h2 := (hf _ hi).2 _ h4
      rw [hjd] at h2
      rw [h2, h1]
    · obtain ⟨i, hi, rfl⟩ := List.mem_map.1 hc
      exact (hf i (List.mem_range.1 hi)).1
end Go.Proofs.YtfoppbignompkaaDoor
