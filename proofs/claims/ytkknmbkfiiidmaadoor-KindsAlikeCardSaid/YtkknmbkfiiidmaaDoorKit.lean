/-
  Small lemmas on worlds, owned rows and readings, over any program: what my walks share.
-/
import Derived.WalkKit
import Derived.WalkSpells
import Derived.WalkLawsBesides
import Derived.Lib.Hide
import Derived.Lib.RuneBytes
import Derived.OpenShut
import Derived.Laws.AppendOwnNone
namespace Go.Proofs.YtkknmbkfiiidmaaDoor
open Go.RowKit

theorem ret_bool {a b : Bool} (h : a = b) : Ending.returned (.bool a) = .returned (.bool b) := by rw [h]
theorem ret_int {k : IntKind} {a b : Int} (h : a = b) : Ending.returned (.int k a) = .returned (.int k b) := by rw [h]

/-- What lay below a size stays owned. -/
theorem owns_below {w w' : World} {B base : Nat} {e : TypeId} {size : Nat} {v : Value} {n : Nat} {xs : List Value} (h : w.ownsRow base e size v n xs) (hb : Below B w w') (hB : w.heap.size ≤ B) : w'.ownsRow base e size v n xs := by
  obtain ⟨h1, h2⟩ := h
  refine ⟨h1, ?_⟩
  rcases h2 with h2 | ⟨g, cap, cur, hv, hg, hh, r⟩
  · exact .inl h2
  · exact .inr ⟨g, cap, cur, hv, hg, (hb.block g (by have := (Array.getElem?_eq_some_iff.1 hh).1; omega)).trans hh, r⟩

theorem owns_base {w : World} {base base' : Nat} {e : TypeId} {size : Nat} {v : Value} {n : Nat} {xs : List Value} (h : w.ownsRow base e size v n xs) (hB : base' ≤ base) : w.ownsRow base' e size v n xs := by
  obtain ⟨h1, h2⟩ := h
  refine ⟨h1, ?_⟩
  rcases h2 with h2 | ⟨g, cap, cur, hv, hg, r⟩
  · exact .inl h2
  · exact .inr ⟨g, cap, cur, hv, by omega, r⟩

/-- A row of numbers that is read: it is empty, or its cells lie there. -/
def ReadsI (w : World) (k : IntKind) (ao : Option Addr) (zs : List Int) : Prop :=
  zs = [] ∨ ∃ b off, ao = some ⟨b, off, none⟩ ∧ ∀ j, j < zs.length → w.cell? ⟨b, off + j, none⟩ = some (.int k (zs[j]?.getD 0))

theorem ReadsI.below {w w' : World} {k : IntKind} {ao : Option Addr} {zs : List Int} (h : ReadsI w k ao zs) {B : Nat} (hb : Below B w w') (hB : w.heap.size ≤ B) : ReadsI w' k ao zs := by
  rcases h with h | ⟨b, off, hao, hc⟩
  · exact .inl h
  · refine .inr ⟨b, off, hao, fun j hj => ?_⟩
    have h1 := hc j hj
    have hlt : b < w.heap.size := World.block_lt_of_cell? w ⟨b, off + j, none⟩ h1
    exact (hb.cell (p := ⟨b, off + j, none⟩) (by show b < B; omega)).trans h1

/-- An owned row of numbers is read. -/
theorem ReadsI.owned {w : World} {base : Nat} {e : TypeId} {k : IntKind} {v : Value} {n : Nat} {zs : List Int} (h : w.ownsRow base e 1 v n (zs.map (Value.int k))) :
    ∃ ao cap, v = .slice ao zs.length cap ∧ n = zs.length ∧ ReadsI w k ao zs := by
  have hl : n = zs.length := by have := h.1; simpa using this.symm
  rcases h.2 with ⟨rfl, h0⟩ | ⟨g, cap, cur, rfl, hg, hh, hn, hc, hs, ht⟩
  · have : zs = [] := List.length_eq_zero_iff.1 (by omega)
    subst this
    exact ⟨none, 0, rfl, hl, .inl rfl⟩
  · refine ⟨_, cap, by rw [hl], hl, .inr ⟨g, 0, rfl, fun j hj => ?_⟩⟩
    have := h.cells (g := g) rfl j (.int k (zs[j]?.getD 0)) (by simp [hj])
    rwa [Addr.add_lit] at this

/-- A row of bytes that is owned, as a text. -/
theorem conv_own {P : Program} {w : World} {base : Nat} {src e dst : TypeId} {v : Value} {n : Nat} {zs : List Int} (hs : P.underlying src = some (.slice e)) (he : P.underlying e = some (.int .u8)) (hd : P.underlying dst = some .string)
    (h : w.ownsRow base e 1 v n (zs.map (Value.int .u8))) : (convert src dst v).run P w = .ok (.string (strOfNums zs)) w := by
  have hl : n = zs.length := by have := h.1; simpa using this.symm
  rcases h.2 with ⟨rfl, h0⟩ | ⟨g, cap, cur, rfl, hg, hh, hn, hc, hsz, ht⟩
  · have : zs = [] := List.length_eq_zero_iff.1 (by omega)
    subst this
    exact run_convert_bytes_nil w src e hs he 0 0 dst hd
  · refine run_convert_bytes_arg w src e hs he g 0 n cap zs hl.symm (fun i hi => ?_) dst hd
    have := h.cells (g := g) rfl i (.int .u8 (zs.getD i 0)) (by simp [List.getD, show i < zs.length by omega])
    rwa [Addr.add_lit] at this

/-- The cells of a block that has just been laid. -/
theorem cells_new (w : World) (xs : List Value) (t : TypeId) : ∀ j u, xs[j]? = some u → (w.alloc (.cells xs.toArray t)).cell? ((⟨w.heap.size, 0, none⟩ : Addr).add j) = some u := by
  intro j u hj
  have hlt := (List.getElem?_eq_some_iff.1 hj).1
  rw [Addr.add_lit, Nat.zero_add]
  simp [hj]

theorem size_setCell (w : World) (a : Addr) (v : Value) : (w.setCell a v).heap.size = w.heap.size := by simp [World.setCell]

theorem cells_new_set (w : World) (p : Addr) (v : Value) (xs : List Value) (t : TypeId) : ∀ j u, xs[j]? = some u → ((w.setCell p v).alloc (.cells xs.toArray t)).cell? ((⟨w.heap.size, 0, none⟩ : Addr).add j) = some u := by
  intro j u hj
  have := cells_new (w.setCell p v) xs t j u hj
  rwa [size_setCell] at this

/-- A store into an owned row of numbers. -/
theorem stored_nums {w : World} {base : Nat} {e : TypeId} {k : IntKind} {g n cap j : Nat} {a b : List Int} {x y : Int} (h : w.ownsRow base e 1 (.slice (some ⟨g, 0, none⟩) n cap) n ((a ++ x :: b).map (Value.int k))) (hj : a.length = j) :
    (w.setCell ⟨g, j, none⟩ (.int k y)).ownsRow base e 1 (.slice (some ⟨g, 0, none⟩) n cap) n ((a ++ y :: b).map (Value.int k)) := by
  have := (h.stored j (.int k y)).1
  subst hj
  simpa using this

theorem map_oneCell (k : IntKind) (zs : List Int) : ∀ u ∈ zs.map (Value.int k), u.oneCell' = true := ints_oneCell k zs

/-- 'append(v, x...)' onto an owned row, x whatever: nil, or a row of cells that lies there. -/
theorem wpList_append_src {P : Program} {w : World} {ops : Array Oper} {rest : List Oper} {o : Oper} {a : Act} {Q : Exit → Act → World → Prop} (hgd : o.guard = none) (s x : Operand) (t : TypeId)
    (ho : o.op = .call { callee := .builtin .append, args := #[s, x], argTypes := #[t, t] })
    (base : Nat) (e : TypeId) (i : TypeInfo) (z : Value) (size bytes : Nat) (ht : P.underlying t = some (.slice e)) (hi : P.info? e = some i) (hz : i.zero = some z)
    (hsize : i.size = size) (hby : i.bytes = bytes) (hzs : z.cells.size = size) (hsz : 0 < size)
    (v : Value) (n : Nat) (xs : List Value) (hs : a.eval s = v) (hown : w.ownsRow base e size v n xs)
    (ao : Option Addr) (m c : Nat) (news : List Value) (hx : a.eval x = .slice ao m c) (hl : news.length = m * size)
    (hnews : (ao = none ∧ m = 0 ∧ c = 0) ∨ ∃ ad, ao = some ad ∧ ∀ j u, news[j]? = some u → w.cell? (ad.add j) = some u) (h1 : ∀ u ∈ news, u.oneCell' = true)
    (h63 : n + m ≤ maxLen) (hbytes : (n + m) * bytes ≤ 140737488355328) (hbase : base ≤ w.heap.size)
    (h : ∀ v' w', w'.ownsRow base e size v' (n + m) (xs ++ news) → w.grownBy w' v.ownBlock → (v' = .slice none 0 0 ↔ v = .slice none 0 0 ∧ m = 0) → wpList P ops Q rest (a.put o.dst v') w') : wpList P ops Q (o :: rest) a w := by
  rcases hnews with ⟨rfl, rfl, rfl⟩ | ⟨ad, rfl, hc⟩
  · have hnil : news = [] := List.length_eq_zero_iff.1 (by simpa using hl)
    subst hnil
    refine wpList_append_own_none hgd s x t ho base e i size ht hi v n xs hs hown hx (h v w (by simpa using hown) ⟨rfl, rfl, rfl, Nat.le_refl _, fun _ _ _ => rfl⟩ (by simp))
  · exact wpList_append_own _ hgd s x t ho base e i z size bytes ht hi hz hsize hby hzs hsz v n xs hs hown ad m c news hx hl hc h1 h63 hbytes hbase h

/-- What an argument that is a slice of numbers gives: the elements alone. -/
def SrcI (w : World) (k : IntKind) (ao : Option Addr) (cap : Nat) (zs : List Int) : Prop :=
  (ao = none ∧ zs = [] ∧ cap = 0) ∨ ∃ ad, ao = some ad ∧ ∀ j u, (zs.map (Value.int k))[j]? = some u → w.cell? (ad.add j) = some u

theorem SrcI.reads {w : World} {k : IntKind} {ao : Option Addr} {cap : Nat} {zs : List Int} (h : SrcI w k ao cap zs) : ReadsI w k ao zs := by
  rcases h with ⟨_, rfl, _⟩ | ⟨ad, rfl, hc⟩
  · exact .inl rfl
  · cases zs with
    | nil => exact .inl rfl
    | cons z zs =>
      obtain ⟨b, off, spot⟩ := ad
      have h0 := hc 0 (.int k z) (by simp)
      have hspot : spot = none := by simpa [Addr.add] using World.cell?_spot h0
      subst hspot
      refine .inr ⟨b, off, rfl, fun j hj => ?_⟩
      have := hc j (.int k ((z :: zs)[j]?.getD 0)) (by rw [List.getElem?_map, List.getElem?_eq_getElem hj]; rfl)
      rwa [Addr.add_lit] at this

theorem SrcI.below {w w' : World} {k : IntKind} {ao : Option Addr} {cap : Nat} {zs : List Int} (h : SrcI w k ao cap zs) {B : Nat} (hb : Below B w w') (hB : w.heap.size ≤ B) : SrcI w' k ao cap zs := by
  rcases h with h | ⟨ad, hao, hc⟩
  · exact .inl h
  · refine .inr ⟨ad, hao, fun j u hj => ?_⟩
    have h1 := hc j u hj
    have hlt := World.block_lt_of_cell? w (ad.add j) h1
    exact (hb.cell (p := ad.add j) (by omega)).trans h1

theorem SrcI.append {w : World} {k : IntKind} {ao : Option Addr} {cap : Nat} {zs : List Int} (h : SrcI w k ao cap zs) :
    (ao = none ∧ zs.length = 0 ∧ cap = 0) ∨ ∃ ad, ao = some ad ∧ ∀ j u, (zs.map (Value.int k))[j]? = some u → w.cell? (ad.add j) = some u := by
  rcases h with ⟨h1, rfl, h2⟩ | h
  · exact .inl ⟨h1, rfl, h2⟩
  · exact .inr h

theorem reads_new (w : World) (k : IntKind) (zs : List Int) (t : TypeId) : ReadsI (w.alloc (.cells (zs.map (Value.int k)).toArray t)) k (some ⟨w.heap.size, 0, none⟩) zs := by
  refine .inr ⟨w.heap.size, 0, rfl, fun j hj => ?_⟩
  have := cells_new w (zs.map (Value.int k)) t j (.int k (zs[j]?.getD 0)) (by rw [List.getElem?_map, List.getElem?_eq_getElem hj]; rfl)
  rwa [Addr.add_lit] at this

/-- Steps of the world, one behind the other: a callee's; a new block's. -/
theorem nx {w w1 w2 : World} (h : Below w.heap.size w w1) (h1 : Below w1.heap.size w1 w2) : Below w.heap.size w w2 := h.trans (h1.mono h.size)
theorem al {w w1 : World} (h : Below w.heap.size w w1) (o : Obj) : Below w.heap.size w (w1.alloc o) := h.alloc h.size o

end Go.Proofs.YtkknmbkfiiidmaaDoor
