/-
  What '==' says of two tallies.
-/
import Derived.Test.YtpihmbdfhhjleaaDoorTalRef
import Derived.Laws.StructEq
namespace Go.Proofs.YtpihmbdfhhjleaaDoor
open Go.RowKit

/-- the same tally? -/
def eqT (b c l : Int) (h t : ByteArray) (b' c' l' : Int) (h' t' : ByteArray) : Bool := decide (b = b' ∧ c = c' ∧ l = l' ∧ h = h' ∧ t = t')

theorem toList_inj {a b : ByteArray} (h : a.toList = b.toList) : a = b := by
  rw [ByteArray.toList_eq, ByteArray.toList_eq] at h
  obtain ⟨⟨x⟩⟩ := a
  obtain ⟨⟨y⟩⟩ := b
  simp at h
  subst h
  rfl

theorem eq_tal (b c l : Int) (h t : ByteArray) (b' c' l' : Int) (h' t' : ByteArray) (w : World) :
    (Op.equalIn 10000 23 (.agg #[.int .i64 b, .int .i64 c, .int .i64 l, .string h, .string t]) (.agg #[.int .i64 b', .int .i64 c', .int .i64 l', .string h', .string t'])).run Tryd.prog w = .ok (eqT b c l h t b' c' l' h' t') w := by
  have u3 := Tryd.underlying3
  have a3 := Tryd.isAgg3
  have z3 := Tryd.sizeOf3
  have u9 := Tryd.underlying9
  have a9 := Tryd.isAgg9
  have z9 := Tryd.sizeOf9
  have hS : Tryd.prog.underlying 23 = some (.struct (Tryd.prog.fieldsOf 23)) := by kernel_rfl
  have hp : Tryd.prog.stoodInHeld 23 = false := by kernel_rfl
  rw [show (10000 : Nat) = 9999 + 1 from rfl, run_equalIn_agg w 9999 23 _ _ hS hp]
  simp only [Program.fieldsOf, Tryd.underlying23]
  go_simp
  have e1 : h.toList = h'.toList ↔ h = h' := ⟨toList_inj, fun e => by rw [e]⟩
  have e2 : t.toList = t'.toList ↔ t = t' := ⟨toList_inj, fun e => by rw [e]⟩
  unfold eqT
  by_cases h1 : b = b' <;> by_cases h2 : c = c' <;> by_cases h3 : l = l' <;> by_cases h4 : h = h' <;> by_cases h5 : t = t' <;> simp [h1, h2, h3, h4, h5, e1, e2]
theorem guard_tal : Tryd.prog.eqGuardType Tryd.prog.depth 23 = false := by kernel_rfl

theorem cell_keep {W W' : World} {g i : Nat} {v : Value} (h : W.cell? ⟨g, i, none⟩ = some v) (hb : Below W.heap.size W W') : W'.cell? ⟨g, i, none⟩ = some v :=
  (hb.cell (World.block_lt_of_cell? W _ h)).trans h

/-- a tally that lies in a block -/
def BoxAt (W : World) (g : Nat) (b c l : Int) (h t : ByteArray) : Prop :=
  W.cell? ⟨g, 0, none⟩ = some (.int .i64 b) ∧ W.cell? ⟨g, 1, none⟩ = some (.int .i64 c) ∧ W.cell? ⟨g, 2, none⟩ = some (.int .i64 l) ∧ W.cell? ⟨g, 3, none⟩ = some (.string h) ∧ W.cell? ⟨g, 4, none⟩ = some (.string t)
theorem BoxAt.keep {W W' : World} {g : Nat} {b c l : Int} {h t : ByteArray} (H : BoxAt W g b c l h t) (hb : Below W.heap.size W W') : BoxAt W' g b c l h t :=
  ⟨cell_keep H.1 hb, cell_keep H.2.1 hb, cell_keep H.2.2.1 hb, cell_keep H.2.2.2.1 hb, cell_keep H.2.2.2.2 hb⟩
theorem BoxAt.new (w : World) (b c l : Int) (h t : ByteArray) : BoxAt (w.alloc (.cells #[.int .i64 b, .int .i64 c, .int .i64 l, .string h, .string t] 23)) w.heap.size b c l h t := by
  refine ⟨?_, ?_, ?_, ?_, ?_⟩ <;> (rw [World.cell?_alloc_at _ _ _ _ rfl]; rfl)

/-- may a tally be? -/
def okA (b c l : Int) : Bool := decide (0 ≤ b ∧ 0 ≤ l ∧ l ≤ c ∧ c ≤ b ∧ b ≤ 4 * c)
def okH (b : Int) (h t : Bs) : Bool := decide ((h.length : Int) = min b 3 ∧ (t.length : Int) = min b 3)
def okS (b c l : Int) (h t s : Bs) : Bool := decide (b = s.length ∧ c = countN s ∧ l = linN s ∧ h = hd3 s ∧ t = tl3 s)
def inner (b : Int) (h t : Bs) : Bs := h ++ t.drop (2 * min b 3 - b).toNat
def okB (b c l : Int) (h t : Bs) : Bool := okA b c l && (okH b h t && (decide (6 < b) || okS b c l h t (inner b h t)))

theorem eqT_okS (b c l : Int) (h t : ByteArray) (s : Bs) : eqT b c l h t s.length (countN s) (linN s) (sB (hd3 s)) (sB (tl3 s)) = okS b c l (bs h) (bs t) s := by
  unfold eqT okS
  have e1 : h = sB (hd3 s) ↔ bs h = hd3 s := ⟨fun e => by rw [e, bs_sB], fun e => by rw [← e, sB_bs]⟩
  have e2 : t = sB (tl3 s) ↔ bs t = tl3 s := ⟨fun e => by rw [e, bs_sB], fun e => by rw [← e, sB_bs]⟩
  simp only [e1, e2]
theorem inner_bs (b : Int) (h t : ByteArray) (k : Nat) (hk : (2 * min b 3 - b).toNat = k) : bs (h ++ t.extract k t.size) = inner b (bs h) (bs t) := by
  rw [bs_append, bs_drop, ← hk]
  rfl
end Go.Proofs.YtpihmbdfhhjleaaDoor
