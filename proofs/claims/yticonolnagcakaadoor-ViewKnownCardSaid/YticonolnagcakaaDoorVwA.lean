/-
  Blocks of two cells (a struct of two fields that a call has laid), and stores into them.
-/
import Derived.WalkKit
import Derived.WalkSpells
import Derived.WalkLawsBesides
import Derived.Lib.Hide
import Derived.Lib.RuneBytes
import Derived.OpenShut
import Derived.Laws.AppendOwnNone
import Derived.Lib.TrimUEq
import Derived.Lib.RuneCount
import Derived.Test.YticonolnagcakaaDoorShelf
import Derived.Lib.OthersKept
import Derived.Test.YticonolnagcakaaDoorProg
import Derived.Lib.DecodeNEq
import Derived.BigQuiet
import Derived.Deep.QuietTactic
import Derived.RangeFuncNested
import Derived.RangeFuncBound
import Derived.RangeFuncLeaves
import Derived.OwnWalkIn
import Derived.TacticsInMore
import Derived.LoopNIn
import Derived.LoopIn
namespace Go.Proofs.YticonolnagcakaaDoor
open Go.RowKit

theorem ret_bool {a b : Bool} (h : a = b) : Ending.returned (.bool a) = .returned (.bool b) := by rw [h]
theorem ret_int {k : IntKind} {a b : Int} (h : a = b) : Ending.returned (.int k a) = .returned (.int k b) := by rw [h]

/-- What lay below a size stays owned. -/
theorem owns_below {w w' : World} {B base : Nat} {e : TypeId} {size : Nat} {v : Value} {n : Nat} {xs : List Value} (h : w.ownsRow base e size v n xs) (hb : Below B w w') (hB : w.heap.size ≤ B) : w'.ownsRow base e size v n xs := by
  obtain ⟨h1, h2⟩ := h
  refine ⟨h1, ?_⟩
  rcases h2 with h2 | ⟨g, cap, cur, hv, hg, hh, r⟩
  · exact .inl h2
  · exact .inr ⟨g, cap, cur, hv, hg, (hb.block g (by have := (Array.getElem?_eq_some_iff.1 hh).1; omega)).trans hh, r⟩

theorem owns_base {w : World} {base base' : Nat} {e : TypeId} {size : Nat} {v : Value} {n : Nat} {xs : List Value} (h : w.ownsRow base e size v n xs) (hB : base' ≤ base) : w.ownsRow base' e size v n xs := by
  obtain ⟨h1, h2⟩ := h
  refine ⟨h1, ?_⟩
  rcases h2 with h2 | ⟨g, cap, cur, hv, hg, r⟩
  · exact .inl h2
  · exact .inr ⟨g, cap, cur, hv, by omega, r⟩

/-- A row of numbers that is read: it is empty, or its cells lie there. -/
def ReadsI (w : World) (k : IntKind) (ao : Option Addr) (zs : List Int) : Prop :=
  zs = [] ∨ ∃ b off, ao = some ⟨b, off, none⟩ ∧ ∀ j, j < zs.length → w.cell? ⟨b, off + j, none⟩ = some (.int k (zs[j]?.getD 0))

theorem ReadsI.below {w w' : World} {k : IntKind} {ao : Option Addr} {zs : List Int} (h : ReadsI w k ao zs) {B : Nat} (hb : Below B w w') (hB : w.heap.size ≤ B) : ReadsI w' k ao zs := by
  rcases h with h | ⟨b, off, hao, hc⟩
  · exact .inl h
  · refine .inr ⟨b, off, hao, fun j hj => ?_⟩
    have h1 := hc j hj
    have hlt : b < w.heap.size := World.block_lt_of_cell? w ⟨b, off + j, none⟩ h1
    exact (hb.cell (p := ⟨b, off + j, none⟩) (by show b < B; omega)).trans h1

/-- An owned row of numbers is read. -/
theorem ReadsI.owned {w : World} {base : Nat} {e : TypeId} {k : IntKind} {v : Value} {n : Nat} {zs : List Int} (h : w.ownsRow base e 1 v n (zs.map (Value.int k))) :
    ∃ ao cap, v = .slice ao zs.length cap ∧ n = zs.length ∧ ReadsI w k ao zs := by
  have hl : n = zs.length := by have := h.1; simpa using this.symm
  rcases h.2 with ⟨rfl, h0⟩ | ⟨g, cap, cur, rfl, hg, hh, hn, hc, hs, ht⟩
  · have : zs = [] := List.length_eq_zero_iff.1 (by omega)
    subst this
    exact ⟨none, 0, rfl, hl, .inl rfl⟩
  · refine ⟨_, cap, by rw [hl], hl, .inr ⟨g, 0, rfl, fun j hj => ?_⟩⟩
    have := h.cells (g := g) rfl j (.int k (zs[j]?.getD 0)) (by simp [hj])
    rwa [Addr.add_lit] at this

/-- A row of bytes that is owned, as a text. -/
theorem conv_own {P : Program} {w : World} {base : Nat} {src e dst : TypeId} {v : Value} {n : Nat} {zs : List Int} (hs : P.underlying src = some (.slice e)) (he : P.underlying e = some (.int .u8)) (hd : P.underlying dst = some .string)
    (h : w.ownsRow base e 1 v n (zs.map (Value.int .u8))) : (convert src dst v).run P w = .ok (.string (strOfNums zs)) w := by
  have hl : n = zs.length := by have := h.1; simpa using this.symm
  rcases h.2 with ⟨rfl, h0⟩ | ⟨g, cap, cur, rfl, hg, hh, hn, hc, hsz, ht⟩
  · have : zs = [] := List.length_eq_zero_iff.1 (by omega)
    subst this
    exact run_convert_bytes_nil w src e hs he 0 0 dst hd
  · refine run_convert_bytes_arg w src e hs he g 0 n cap zs hl.symm (fun i hi => ?_) dst hd
    have := h.cells (g := g) rfl i (.int .u8 (zs.getD i 0)) (by simp [List.getD, show i < zs.length by omega])
    rwa [Addr.add_lit] at this

/-- The cells of a block that has just been laid. -/
theorem cells_new (w : World) (xs : List Value) (t : TypeId) : ∀ j u, xs[j]? = some u → (w.alloc (.cells xs.toArray t)).cell? ((⟨w.heap.size, 0, none⟩ : Addr).add j) = some u := by
  intro j u hj
  have hlt := (List.getElem?_eq_some_iff.1 hj).1
  rw [Addr.add_lit, Nat.zero_add]
  simp [hj]

theorem size_setCell (w : World) (a : Addr) (v : Value) : (w.setCell a v).heap.size = w.heap.size := by simp [World.setCell]

theorem cells_new_set (w : World) (p : Addr) (v : Value) (xs : List Value) (t : TypeId) : ∀ j u, xs[j]? = some u → ((w.setCell p v).alloc (.cells xs.toArray t)).cell? ((⟨w.heap.size, 0, none⟩ : Addr).add j) = some u := by
  intro j u hj
  have := cells_new (w.setCell p v) xs t j u hj
  rwa [size_setCell] at this

/-- A store into an owned row of numbers. -/
theorem stored_nums {w : World} {base : Nat} {e : TypeId} {k : IntKind} {g n cap j : Nat} {a b : List Int} {x y : Int} (h : w.ownsRow base e 1 (.slice (some ⟨g, 0, none⟩) n cap) n ((a ++ x :: b).map (Value.int k))) (hj : a.length = j) :
    (w.setCell ⟨g, j, none⟩ (.int k y)).ownsRow base e 1 (.slice (some ⟨g, 0, none⟩) n cap) n ((a ++ y :: b).map (Value.int k)) := by
  have := (h.stored j (.int k y)).1
  subst hj
  simpa using this

theorem map_oneCell (k : IntKind) (zs : List Int) : ∀ u ∈ zs.map (Value.int k), u.oneCell' = true := ints_oneCell k zs

/-- 'append(v, x...)' onto an owned row, x whatever: nil, or a row of cells that lies there. -/
theorem wpList_append_src {P : Program} {w : World} {ops : Array Oper} {rest : List Oper} {o : Oper} {a : Act} {Q : Exit → Act → World → Prop} (hgd : o.guard = none) (s x : Operand) (t : TypeId)
    (ho : o.op = .call { callee := .builtin .append, args := #[s, x], argTypes := #[t, t] })
    (base : Nat) (e : TypeId) (i : TypeInfo) (z : Value) (size bytes : Nat) (ht : P.underlying t = some (.slice e)) (hi : P.info? e = some i) (hz : i.zero = some z)
    (hsize : i.size = size) (hby : i.bytes = bytes) (hzs : z.cells.size = size) (hsz : 0 < size)
    (v : Value) (n : Nat) (xs : List Value) (hs : a.eval s = v) (hown : w.ownsRow base e size v n xs)
    (ao : Option Addr) (m c : Nat) (news : List Value) (hx : a.eval x = .slice ao m c) (hl : news.length = m * size)
    (hnews : (ao = none ∧ m = 0 ∧ c = 0) ∨ ∃ ad, ao = some ad ∧ ∀ j u, news[j]? = some u → w.cell? (ad.add j) = some u) (h1 : ∀ u ∈ news, u.oneCell' = true)
    (h63 : n + m ≤ maxLen) (hbytes : (n + m) * bytes ≤ 140737488355328) (hbase : base ≤ w.heap.size)
    (h : ∀ v' w', w'.ownsRow base e size v' (n + m) (xs ++ news) → w.grownBy w' v.ownBlock → (v' = .slice none 0 0 ↔ v = .slice none 0 0 ∧ m = 0) → wpList P ops Q rest (a.put o.dst v') w') : wpList P ops Q (o :: rest) a w := by
  rcases hnews with ⟨rfl, rfl, rfl⟩ | ⟨ad, rfl, hc⟩
  · have hnil : news = [] := List.length_eq_zero_iff.1 (by simpa using hl)
    subst hnil
    refine wpList_append_own_none hgd s x t ho base e i size ht hi v n xs hs hown hx (h v w (by simpa using hown) ⟨rfl, rfl, rfl, Nat.le_refl _, fun _ _ _ => rfl⟩ (by simp))
  · exact wpList_append_own _ hgd s x t ho base e i z size bytes ht hi hz hsize hby hzs hsz v n xs hs hown ad m c news hx hl hc h1 h63 hbytes hbase h

/-- What an argument that is a slice of numbers gives: the elements alone. -/
def SrcI (w : World) (k : IntKind) (ao : Option Addr) (cap : Nat) (zs : List Int) : Prop :=
  (ao = none ∧ zs = [] ∧ cap = 0) ∨ ∃ ad, ao = some ad ∧ ∀ j u, (zs.map (Value.int k))[j]? = some u → w.cell? (ad.add j) = some u

theorem SrcI.reads {w : World} {k : IntKind} {ao : Option Addr} {cap : Nat} {zs : List Int} (h : SrcI w k ao cap zs) : ReadsI w k ao zs := by
  rcases h with ⟨_, rfl, _⟩ | ⟨ad, rfl, hc⟩
  · exact .inl rfl
  · cases zs with
    | nil => exact .inl rfl
    | cons z zs =>
      obtain ⟨b, off, spot⟩ := ad
      have h0 := hc 0 (.int k z) (by simp)
      have hspot : spot = none := by simpa [Addr.add] using World.cell?_spot h0
      subst hspot
      refine .inr ⟨b, off, rfl, fun j hj => ?_⟩
      have := hc j (.int k ((z :: zs)[j]?.getD 0)) (by rw [List.getElem?_map, List.getElem?_eq_getElem hj]; rfl)
      rwa [Addr.add_lit] at this

theorem SrcI.below {w w' : World} {k : IntKind} {ao : Option Addr} {cap : Nat} {zs : List Int} (h : SrcI w k ao cap zs) {B : Nat} (hb : Below B w w') (hB : w.heap.size ≤ B) : SrcI w' k ao cap zs := by
  rcases h with h | ⟨ad, hao, hc⟩
  · exact .inl h
  · refine .inr ⟨ad, hao, fun j u hj => ?_⟩
    have h1 := hc j u hj
    have hlt := World.block_lt_of_cell? w (ad.add j) h1
    exact (hb.cell (p := ad.add j) (by omega)).trans h1

theorem SrcI.append {w : World} {k : IntKind} {ao : Option Addr} {cap : Nat} {zs : List Int} (h : SrcI w k ao cap zs) :
    (ao = none ∧ zs.length = 0 ∧ cap = 0) ∨ ∃ ad, ao = some ad ∧ ∀ j u, (zs.map (Value.int k))[j]? = some u → w.cell? (ad.add j) = some u := by
  rcases h with ⟨h1, rfl, h2⟩ | h
  · exact .inl ⟨h1, rfl, h2⟩
  · exact .inr h

theorem reads_new (w : World) (k : IntKind) (zs : List Int) (t : TypeId) : ReadsI (w.alloc (.cells (zs.map (Value.int k)).toArray t)) k (some ⟨w.heap.size, 0, none⟩) zs := by
  refine .inr ⟨w.heap.size, 0, rfl, fun j hj => ?_⟩
  have := cells_new w (zs.map (Value.int k)) t j (.int k (zs[j]?.getD 0)) (by rw [List.getElem?_map, List.getElem?_eq_getElem hj]; rfl)
  rwa [Addr.add_lit] at this

/-- Steps of the world, one behind the other: a callee's; a new block's. -/
theorem nx {w w1 w2 : World} (h : Below w.heap.size w w1) (h1 : Below w1.heap.size w1 w2) : Below w.heap.size w w2 := h.trans (h1.mono h.size)
theorem al {w w1 : World} (h : Below w.heap.size w w1) (o : Obj) : Below w.heap.size w (w1.alloc o) := h.alloc h.size o

end Go.Proofs.YticonolnagcakaaDoor

namespace Go.Proofs.YticonolnagcakaaDoor
open Go.Lib

abbrev Bs := List UInt8

/-- The byte at a place, as a number; 0 beyond the end. -/
def by' (l : Bs) (i : Nat) : Nat := (l.getD i 0).toNat
theorem by_lt (l : Bs) (i : Nat) : by' l i < 256 := (l.getD i 0).toNat_lt
theorem by_drop (l : Bs) (p k : Nat) : by' (l.drop p) k = by' l (p + k) := by unfold by'; rw [getD_dropU]
theorem by_take (l : Bs) (i k : Nat) (h : k < i) : by' (l.take i) k = by' l k := by unfold by'; rw [getD_takeU _ _ _ h]
theorem by_append_left (l m : Bs) (k : Nat) (h : k < l.length) : by' (l ++ m) k = by' l k := by unfold by'; simp [List.getD, List.getElem?_append_left h]
theorem by_append_right (l m : Bs) (k : Nat) : by' (l ++ m) (l.length + k) = by' m k := by unfold by'; simp [List.getD, List.getElem?_append_right]

theorem dec_def (l : Bs) : decodeL l = decodeN l.length (by' l 0) (by' l 1) (by' l 2) (by' l 3) := decodeL_N l

/-- The numbers that two, three and four bytes say. -/
def n2 (b0 b1 : Nat) : Nat := (b0 - 192) * 64 + (b1 - 128)
def n3 (b0 b1 b2 : Nat) : Nat := (b0 - 224) * 4096 + (b1 - 128) * 64 + (b2 - 128)
def n4 (b0 b1 b2 b3 : Nat) : Nat := (b0 - 240) * 262144 + (b1 - 128) * 4096 + (b2 - 128) * 64 + (b3 - 128)

/-- When a sequence of two, three, four bytes is a right one. -/
def Ok2 (n b0 b1 : Nat) : Prop := 194 ≤ b0 ∧ b0 < 224 ∧ 2 ≤ n ∧ 128 ≤ b1 ∧ b1 < 192
def Ok3 (n b0 b1 b2 : Nat) : Prop := 224 ≤ b0 ∧ b0 < 240 ∧ 3 ≤ n ∧ 128 ≤ b1 ∧ b1 < 192 ∧ 128 ≤ b2 ∧ b2 < 192 ∧ 2048 ≤ n3 b0 b1 b2 ∧ (n3 b0 b1 b2 < 55296 ∨ 57343 < n3 b0 b1 b2)
def Ok4 (n b0 b1 b2 b3 : Nat) : Prop := 240 ≤ b0 ∧ b0 < 248 ∧ 4 ≤ n ∧ 128 ≤ b1 ∧ b1 < 192 ∧ 128 ≤ b2 ∧ b2 < 192 ∧ 128 ≤ b3 ∧ b3 < 192 ∧ 65536 ≤ n4 b0 b1 b2 b3 ∧ n4 b0 b1 b2 b3 ≤ 1114111

theorem decN_cases (n b0 b1 b2 b3 : Nat) (h0 : b0 < 256) (h1 : b1 < 256) (h2 : b2 < 256) (h3 : b3 < 256) :
    (b0 < 128 ∧ decodeN n b0 b1 b2 b3 = (b0, 1)) ∨
    (Ok2 n b0 b1 ∧ decodeN n b0 b1 b2 b3 = (n2 b0 b1, 2)) ∨
    (Ok3 n b0 b1 b2 ∧ decodeN n b0 b1 b2 b3 = (n3 b0 b1 b2, 3)) ∨
    (Ok4 n b0 b1 b2 b3 ∧ decodeN n b0 b1 b2 b3 = (n4 b0 b1 b2 b3, 4)) ∨
    (128 ≤ b0 ∧ ¬ Ok2 n b0 b1 ∧ ¬ Ok3 n b0 b1 b2 ∧ ¬ Ok4 n b0 b1 b2 b3 ∧ decodeN n b0 b1 b2 b3 = (65533, 1)) := by
  unfold Ok2 Ok3 Ok4 n2 n3 n4 decodeN
  by_cases a0 : b0 < 128
  · rw [if_pos a0]; exact .inl ⟨a0, rfl⟩
  rw [if_neg a0]
  right
  by_cases a2 : b0 / 32 = 6 ∧ (1 < n ∧ b1 / 64 = 2)
  · rw [if_pos a2]
    have e : b0 % 32 * 64 + b1 % 64 = (b0 - 192) * 64 + (b1 - 128) := by omega
    rw [e]
    by_cases c : (b0 - 192) * 64 + (b1 - 128) ≥ 128
    · rw [if_pos c]; left
      exact ⟨by omega, rfl⟩
    · rw [if_neg c]; right; right; right
      refine ⟨by omega, by omega, by omega, by omega, rfl⟩
  rw [if_neg a2]
  by_cases a3 : b0 / 16 = 14 ∧ (1 < n ∧ b1 / 64 = 2) ∧ (2 < n ∧ b2 / 64 = 2)
  · rw [if_pos a3]
    have e : b0 % 16 * 4096 + b1 % 64 * 64 + b2 % 64 = (b0 - 224) * 4096 + (b1 - 128) * 64 + (b2 - 128) := by omega
    rw [e]
    split
    · right; left
      exact ⟨by omega, rfl⟩
    · right; right; right
      refine ⟨by omega, by omega, by omega, by omega, rfl⟩
  rw [if_neg a3]
  by_cases a4 : b0 / 8 = 30 ∧ (1 < n ∧ b1 / 64 = 2) ∧ (2 < n ∧ b2 / 64 = 2) ∧ (3 < n ∧ b3 / 64 = 2)
  · rw [if_pos a4]
    have e : b0 % 8 * 262144 + b1 % 64 * 4096 + b2 % 64 * 64 + b3 % 64 = (b0 - 240) * 262144 + (b1 - 128) * 4096 + (b2 - 128) * 64 + (b3 - 128) := by omega
    rw [e]
    split
    · right; right; left
      exact ⟨by omega, rfl⟩
    · right; right; right
      refine ⟨by omega, by omega, by omega, by omega, rfl⟩
  rw [if_neg a4]
  right; right; right
  refine ⟨by omega, by omega, by omega, by omega, rfl⟩

/-- The same of a list of bytes. -/
theorem dec_cases (l : Bs) :
    (by' l 0 < 128 ∧ decodeL l = (by' l 0, 1)) ∨
    (Ok2 l.length (by' l 0) (by' l 1) ∧ decodeL l = (n2 (by' l 0) (by' l 1), 2)) ∨
    (Ok3 l.length (by' l 0) (by' l 1) (by' l 2) ∧ decodeL l = (n3 (by' l 0) (by' l 1) (by' l 2), 3)) ∨
    (Ok4 l.length (by' l 0) (by' l 1) (by' l 2) (by' l 3) ∧ decodeL l = (n4 (by' l 0) (by' l 1) (by' l 2) (by' l 3), 4)) ∨
    (128 ≤ by' l 0 ∧ ¬ Ok2 l.length (by' l 0) (by' l 1) ∧ ¬ Ok3 l.length (by' l 0) (by' l 1) (by' l 2) ∧ ¬ Ok4 l.length (by' l 0) (by' l 1) (by' l 2) (by' l 3) ∧ decodeL l = (65533, 1)) := by
  rw [dec_def]
  exact decN_cases _ _ _ _ _ (by_lt _ _) (by_lt _ _) (by_lt _ _) (by_lt _ _)

/-- A byte that stands behind the first one of a sequence. -/
def Fol (b : Nat) : Prop := 128 ≤ b ∧ b < 192
instance (b : Nat) : Decidable (Fol b) := inferInstanceAs (Decidable (_ ∧ _))

theorem wid_bounds (l : Bs) : 1 ≤ (decodeL l).2 ∧ (decodeL l).2 ≤ 4 := by
  rcases dec_cases l with ⟨_, h⟩ | ⟨_, h⟩ | ⟨_, h⟩ | ⟨_, h⟩ | ⟨_, _, _, _, h⟩ <;> rw [h] <;> simp

theorem wid_le (l : Bs) (h : l ≠ []) : (decodeL l).2 ≤ l.length := by
  have hl : 1 ≤ l.length := by cases l; contradiction; simp
  rcases dec_cases l with ⟨_, h⟩ | ⟨a, h⟩ | ⟨a, h⟩ | ⟨a, h⟩ | ⟨_, _, _, _, h⟩ <;> rw [h] <;> simp
  · exact hl
  · exact a.2.2.1
  · exact a.2.2.1
  · exact a.2.2.1
  · exact hl

/-- Inside a character every byte but the first one follows. -/
theorem wid_fol (l : Bs) (k : Nat) (h1 : 1 ≤ k) (h2 : k < (decodeL l).2) : Fol (by' l k) := by
  rcases dec_cases l with ⟨_, h⟩ | ⟨a, h⟩ | ⟨a, h⟩ | ⟨a, h⟩ | ⟨_, _, _, _, h⟩ <;> rw [h] at h2 <;> simp at h2
  · omega
  · obtain rfl : k = 1 := by omega
    exact ⟨a.2.2.2.1, a.2.2.2.2⟩
  · obtain ⟨_, _, _, a1, a2, a3, a4, _, _⟩ := a
    obtain rfl | rfl : k = 1 ∨ k = 2 := by omega
    · exact ⟨a1, a2⟩
    · exact ⟨a3, a4⟩
  · obtain ⟨_, _, _, a1, a2, a3, a4, a5, a6, _, _⟩ := a
    obtain rfl | rfl | rfl : k = 1 ∨ k = 2 ∨ k = 3 := by omega
    · exact ⟨a1, a2⟩
    · exact ⟨a3, a4⟩
    · exact ⟨a5, a6⟩
  · omega

/-- A byte that follows begins no character of more bytes. -/
theorem dec_fol (l : Bs) (h : Fol (by' l 0)) : decodeL l = (65533, 1) := by
  obtain ⟨h0, h1⟩ := h
  rcases dec_cases l with ⟨a, h⟩ | ⟨a, h⟩ | ⟨a, h⟩ | ⟨a, h⟩ | ⟨_, _, _, _, h⟩
  · omega
  · have := a.1; omega
  · have := a.1; omega
  · have := a.1; omega
  · exact h

theorem dec_le (l : Bs) : (decodeL l).1 ≤ 1114111 := by
  have := by_lt l 0
  rcases dec_cases l with ⟨a, h⟩ | ⟨a, h⟩ | ⟨a, h⟩ | ⟨a, h⟩ | ⟨_, _, _, _, h⟩ <;> rw [h] <;> simp
  · omega
  · obtain ⟨_, _, _, _, _⟩ := a; unfold n2; omega
  · obtain ⟨_, _, _, _, _, _, _, _, _⟩ := a; unfold n3; omega
  · exact a.2.2.2.2.2.2.2.2.2.2

/-! ### Characters -/
def toks : Nat → Bs → List (Nat × Nat)
  | 0, _ => []
  | f + 1, l => if l = [] then [] else decodeL l :: toks f (l.drop (decodeL l).2)
/-- The characters of a text: rune and width of each. -/
def tk (l : Bs) : List (Nat × Nat) := toks l.length l

theorem toks_fuel : ∀ (f g : Nat) (l : Bs), l.length ≤ f → l.length ≤ g → toks f l = toks g l
  | 0, g, l, h, _ => by
    have : l = [] := List.length_eq_zero_iff.1 (by omega)
    subst this
    cases g <;> simp [toks]
  | f + 1, 0, l, _, h => by
    have : l = [] := List.length_eq_zero_iff.1 (by omega)
    subst this
    simp [toks]
  | f + 1, g + 1, l, hf, hg => by
    unfold toks
    by_cases h : l = []
    · simp [h]
    · rw [if_neg h, if_neg h]
      have hw := (wid_bounds l).1
      have hd : (l.drop (decodeL l).2).length ≤ l.length - 1 := by simp; omega
      rw [toks_fuel f g _ (by omega) (by omega)]

theorem tk_nil : tk [] = [] := rfl
theorem tk_cons (l : Bs) (h : l ≠ []) : tk l = decodeL l :: tk (l.drop (decodeL l).2) := by
  have hl : l.length = (l.length - 1) + 1 := by cases l; contradiction; simp
  unfold tk
  rw [hl]
  conv => lhs; unfold toks
  rw [if_neg h]
  have hw := (wid_bounds l).1
  rw [toks_fuel (l.length - 1) (l.drop (decodeL l).2).length _ (by simp; omega) (Nat.le_refl _)]

/-- how many bytes some characters have -/
def wsum (t : List (Nat × Nat)) : Nat := (t.map (·.2)).sum
theorem wsum_nil : wsum [] = 0 := rfl
theorem wsum_cons (c : Nat × Nat) (t : List (Nat × Nat)) : wsum (c :: t) = c.2 + wsum t := by simp [wsum]
theorem wsum_append (a b : List (Nat × Nat)) : wsum (a ++ b) = wsum a + wsum b := by simp [wsum]

/-- 'done' are the characters ahead of place p, and p is a border. -/
def Cut (l : Bs) (done : List (Nat × Nat)) (p : Nat) : Prop := p ≤ l.length ∧ tk l = done ++ tk (l.drop p) ∧ wsum done = p

theorem Cut.zero (l : Bs) : Cut l [] 0 := ⟨Nat.zero_le _, by simp, rfl⟩
theorem Cut.step {l : Bs} {done : List (Nat × Nat)} {p : Nat} (h : Cut l done p) (hp : p < l.length) : Cut l (done ++ [decodeL (l.drop p)]) (p + (decodeL (l.drop p)).2) := by
  obtain ⟨h1, h2, h3⟩ := h
  have hne : l.drop p ≠ [] := by intro e; have := congrArg List.length e; simp at this; omega
  refine ⟨?_, ?_, ?_⟩
  · have := wid_le (l.drop p) hne
    simp at this; omega
  · rw [h2, tk_cons _ hne, List.drop_drop]; simp
  · rw [wsum_append, h3, wsum_cons, wsum_nil]; omega
theorem Cut.end' {l : Bs} {done : List (Nat × Nat)} {p : Nat} (h : Cut l done p) (hp : ¬ p < l.length) : done = tk l ∧ p = l.length := by
  obtain ⟨h1, h2, h3⟩ := h
  have : p = l.length := by omega
  subst this
  rw [List.drop_length, tk_nil, List.append_nil] at h2
  exact ⟨h2.symm, rfl⟩
theorem Cut.len_le {l : Bs} {done : List (Nat × Nat)} {p : Nat} (h : Cut l done p) : done.length ≤ p := by
  obtain ⟨h1, h2, h3⟩ := h
  subst h3
  have : ∀ (t r : List (Nat × Nat)) (m : Bs), tk m = t ++ r → t.length ≤ wsum t := by
    intro t
    induction t with
    | nil => intro r m _; simp
    | cons c t ih =>
      intro r m e
      by_cases hm : m = []
      · subst hm; simp [tk_nil] at e
      · rw [tk_cons m hm] at e
        have e1 := (List.cons.inj e).1
        have := ih _ _ (List.cons.inj e).2
        rw [wsum_cons, ← e1]
        have := (wid_bounds m).1
        simp; omega
  exact this done _ l h2
theorem Cut.full (l : Bs) : Cut l (tk l) l.length := by
  have : ∀ (n : Nat) (m : Bs), m.length ≤ n → wsum (tk m) = m.length := by
    intro n
    induction n with
    | zero => intro m hm; have : m = [] := List.length_eq_zero_iff.1 (by omega); subst this; rfl
    | succ n ih =>
      intro m hm
      by_cases h : m = []
      · subst h; rfl
      · rw [tk_cons m h, wsum_cons]
        have h1 := (wid_bounds m).1
        have h2 := wid_le m h
        rw [ih _ (by simp; omega)]
        simp; omega
  exact ⟨Nat.le_refl _, by rw [List.drop_length, tk_nil]; simp, this _ l (Nat.le_refl _)⟩

/-- Two cuts at one place are one; places rise with what is done. -/
theorem Cut.unique {l : Bs} {a b : List (Nat × Nat)} {p q : Nat} (h : Cut l a p) (k : Cut l b q) (hpq : p ≤ q) : ∃ c, b = a ++ c ∧ tk (l.drop p) = c ++ tk (l.drop q) ∧ p + wsum c = q := by
  obtain ⟨h1, h2, h3⟩ := h
  obtain ⟨k1, k2, k3⟩ := k
  have e : a ++ tk (l.drop p) = b ++ tk (l.drop q) := by rw [← h2, ← k2]
  rcases List.append_eq_append_iff.1 e with ⟨c, hb, hc⟩ | ⟨c, ha, hc⟩
  · exact ⟨c, hb, hc, by rw [← h3, ← k3, hb, wsum_append]⟩
  · have h4 : wsum c = 0 := by rw [ha, wsum_append] at h3; omega
    have hpos : ∀ (t r : List (Nat × Nat)) (m : Bs), tk m = t ++ r → wsum t = 0 → t = [] := by
      intro t r m e h
      cases t with
      | nil => rfl
      | cons x t =>
        by_cases hm : m = []
        · subst hm; simp [tk_nil] at e
        · rw [tk_cons m hm] at e
          have e1 := (List.cons.inj e).1
          rw [wsum_cons, ← e1] at h
          have := (wid_bounds m).1
          omega
    have hc0 : c = [] := hpos c _ (l.drop q) hc h4
    subst hc0
    have hab : a = b := by simpa using ha
    subst hab
    exact ⟨[], by simp, by simpa using hc.symm, by rw [wsum_nil]; omega⟩

/-- Each place lies in a character, or is the end. -/
theorem Cut.find (l : Bs) (p : Nat) (hp : p ≤ l.length) : ∃ done q, Cut l done q ∧ q ≤ p ∧ ((q < l.length ∧ p < q + (decodeL (l.drop q)).2) ∨ (p = l.length ∧ q = p)) := by
  have : ∀ (n : Nat) (done : List (Nat × Nat)) (q : Nat), Cut l done q → q ≤ p → p - q ≤ n → ∃ done q, Cut l done q ∧ q ≤ p ∧ ((q < l.length ∧ p < q + (decodeL (l.drop q)).2) ∨ (p = l.length ∧ q = p)) := by
    intro n
    induction n with
    | zero =>
      intro done q hc hq hn
      obtain rfl : q = p := by omega
      by_cases hl : q < l.length
      · exact ⟨done, q, hc, Nat.le_refl _, .inl ⟨hl, by have := (wid_bounds (l.drop q)).1; omega⟩⟩
      · exact ⟨done, q, hc, Nat.le_refl _, .inr ⟨by omega, rfl⟩⟩
    | succ n ih =>
      intro done q hc hq hn
      by_cases hl : q < l.length
      · by_cases hw : p < q + (decodeL (l.drop q)).2
        · exact ⟨done, q, hc, hq, .inl ⟨hl, hw⟩⟩
        · exact ih _ _ (hc.step hl) (by omega) (by have := (wid_bounds (l.drop q)).1; omega)
      · have := hc.1
        exact ⟨done, q, hc, hq, .inr ⟨by omega, by omega⟩⟩
  exact this p [] 0 (Cut.zero l) (Nat.zero_le _) (by omega)

/-- A border: a character begins there, or the text ends. -/
def Border (l : Bs) (p : Nat) : Prop := ∃ done, Cut l done p

/-- Where no following byte stands, a character begins. -/
theorem border_nofol (l : Bs) (p : Nat) (hp : p < l.length) (hf : ¬ Fol (by' l p)) : Border l p := by
  obtain ⟨done, q, hc, hq, h⟩ := Cut.find l p (by omega)
  rcases h with ⟨_, hw⟩ | ⟨h1, _⟩
  · by_cases e : q = p
    · subst e; exact ⟨done, hc⟩
    · have := wid_fol (l.drop q) (p - q) (by omega) (by omega)
      rw [by_drop, show q + (p - q) = p from by omega] at this
      exact absurd this hf
  · omega

/-- No border lies within a character. -/
theorem not_border_within {l : Bs} {q p : Nat} (hq : Border l q) (h1 : q < p) (h2 : p < q + (decodeL (l.drop q)).2) (hl : q < l.length) : ¬ Border l p := by
  rintro ⟨b, hb⟩
  obtain ⟨a, ha⟩ := hq
  obtain ⟨c, _, hc, hs⟩ := ha.unique hb (by omega)
  have hne : l.drop q ≠ [] := by intro e; have := congrArg List.length e; simp at this; omega
  cases c with
  | nil => simp [wsum] at hs; omega
  | cons x c =>
    rw [tk_cons _ hne] at hc
    have e1 := (List.cons.inj hc).1
    rw [wsum_cons, ← e1] at hs
    omega

/-- Behind a border and its character, over following bytes, each place is a border. -/
theorem border_run {l : Bs} {q : Nat} (hq : Border l q) (p : Nat) (hqp : q ≤ p) (hp : p ≤ l.length) (hf : ∀ i, q ≤ i → i < p → Fol (by' l i)) : Border l p := by
  induction p with
  | zero => obtain rfl : q = 0 := by omega
            exact hq
  | succ p ih =>
    by_cases e : q = p + 1
    · subst e; exact hq
    · obtain ⟨a, ha⟩ := ih (by omega) (by omega) (fun i h1 h2 => hf i h1 (by omega))
      have h1 := ha.step (by omega)
      rw [dec_fol (l.drop p) (by rw [by_drop]; exact hf p (by omega) (by omega))] at h1
      exact ⟨_, h1⟩

/-- The places that stand k bytes behind the nearest byte that does not follow. -/
theorem border_iff_back {l : Bs} {p k : Nat} (hp : p ≤ l.length) (hk : 1 ≤ k) (hkp : k ≤ p) (hnf : ¬ Fol (by' l (p - k))) (hf : ∀ i, p - k < i → i < p → Fol (by' l i)) :
    Border l p ↔ (decodeL (l.drop (p - k))).2 ≤ k := by
  have hq := border_nofol l (p - k) (by omega) hnf
  constructor
  · intro hb
    rcases Nat.lt_or_ge k (decodeL (l.drop (p - k))).2 with h | h
    · exact absurd hb (not_border_within hq (by omega) (by omega) (by omega))
    · exact h
  · intro hw
    obtain ⟨a, ha⟩ := hq
    have h1 := ha.step (by omega)
    have := (wid_bounds (l.drop (p - k))).1
    exact border_run ⟨_, h1⟩ p (by omega) hp (fun i h2 h3 => hf i (by omega) h3)

/-- Where three bytes that follow stand ahead (or all bytes ahead follow) a place is a border. -/
theorem border_far {l : Bs} {p k : Nat} (hp : p ≤ l.length) (hk : k = 3 ∨ k = p) (hkp : k ≤ p) (hf : ∀ i, p - k ≤ i → i < p → Fol (by' l i)) : Border l p := by
  obtain ⟨done, q, hc, hq, h⟩ := Cut.find l p hp
  rcases h with ⟨hl, hw⟩ | ⟨h1, h2⟩
  · by_cases e : q = p
    · subst e; exact ⟨done, hc⟩
    · have h4 := (wid_bounds (l.drop q)).2
      have : p - k ≤ q := by omega
      have := dec_fol (l.drop q) (by rw [by_drop]; exact hf q this (by omega))
      rw [this] at hw
      simp at hw
      omega
  · subst h2; exact ⟨done, hc⟩

end Go.Proofs.YticonolnagcakaaDoor

namespace Go.Proofs.YticonolnagcakaaDoor
open Go.Lib

def countN (l : Bs) : Nat := (tk l).length
theorem countN_le (l : Bs) : countN l ≤ l.length := (Cut.full l).len_le

/-- the character that has a place; at the end how many there are -/
def ofT : List (Nat × Nat) → Nat → Nat
  | [], _ => 0
  | c :: t, p => if p < c.2 then 0 else 1 + ofT t (p - c.2)
/-- is a place a border? -/
def bordT : List (Nat × Nat) → Nat → Bool
  | _, 0 => true
  | [], _ + 1 => false
  | c :: t, p + 1 => if p + 1 < c.2 then false else bordT t (p + 1 - c.2)

theorem ofT_append (a t : List (Nat × Nat)) (p : Nat) (h : wsum a ≤ p) : ofT (a ++ t) p = a.length + ofT t (p - wsum a) := by
  induction a generalizing p with
  | nil => simp [wsum]
  | cons c a ih =>
    rw [wsum_cons] at h
    rw [List.cons_append, ofT, if_neg (by omega), ih _ (by omega), wsum_cons]
    simp only [List.length_cons]
    rw [show p - c.2 - wsum a = p - (c.2 + wsum a) from by omega]
    omega

theorem bordT_append (a t : List (Nat × Nat)) (p : Nat) (h : wsum a ≤ p) (hpos : ∀ c ∈ a, 1 ≤ c.2) : bordT (a ++ t) p = bordT t (p - wsum a) := by
  induction a generalizing p with
  | nil => simp [wsum]
  | cons c a ih =>
    have hc := hpos c (by simp)
    rw [wsum_cons] at h
    obtain ⟨q, rfl⟩ : ∃ q, p = q + 1 := ⟨p - 1, by omega⟩
    rw [List.cons_append, bordT, if_neg (by omega), ih _ (by omega) (fun d hd => hpos d (by simp [hd])), wsum_cons]
    rw [show q + 1 - c.2 - wsum a = q + 1 - (c.2 + wsum a) from by omega]

theorem tk_pos : ∀ (n : Nat) (l : Bs), l.length ≤ n → ∀ c ∈ tk l, 1 ≤ c.2 ∧ c.2 ≤ 4
  | 0, l, h => by
    have : l = [] := List.length_eq_zero_iff.1 (by omega)
    subst this
    intro c hc; simp [tk_nil] at hc
  | n + 1, l, h => by
    intro c hc
    by_cases hl : l = []
    · subst hl; simp [tk_nil] at hc
    · rw [tk_cons l hl] at hc
      rcases List.mem_cons.1 hc with rfl | hc
      · exact wid_bounds l
      · have h1 := (wid_bounds l).1
        have : 1 ≤ l.length := by cases l; contradiction; simp
        exact tk_pos n _ (by simp; omega) c hc
theorem tk_wid (l : Bs) : ∀ c ∈ tk l, 1 ≤ c.2 ∧ c.2 ≤ 4 := tk_pos l.length l (Nat.le_refl _)

theorem Cut.pos {l : Bs} {a : List (Nat × Nat)} {p : Nat} (h : Cut l a p) : ∀ c ∈ a, 1 ≤ c.2 := fun c hc => (tk_wid l c (by rw [h.2.1]; simp [hc])).1

theorem Cut.take {l : Bs} {a : List (Nat × Nat)} {p : Nat} (h : Cut l a p) : a = (tk l).take a.length := by rw [h.2.1]; simp
theorem Cut.le_count {l : Bs} {a : List (Nat × Nat)} {p : Nat} (h : Cut l a p) : a.length ≤ countN l := by unfold countN; rw [h.2.1]; simp
theorem Cut.lt_count {l : Bs} {a : List (Nat × Nat)} {p : Nat} (h : Cut l a p) (hp : p < l.length) : a.length < countN l := by
  have := (h.step hp).le_count
  simp at this; omega
/-- the place of a character -/
def atN (l : Bs) (n : Nat) : Nat := wsum ((tk l).take n)
theorem Cut.at' {l : Bs} {a : List (Nat × Nat)} {p : Nat} (h : Cut l a p) : atN l a.length = p := by unfold atN; rw [← h.take, h.2.2]
theorem cut_at (l : Bs) (n : Nat) (h : n ≤ countN l) : Cut l ((tk l).take n) (atN l n) := by
  induction n with
  | zero => simpa [atN, wsum] using Cut.zero l
  | succ n ih =>
    have h1 := ih (by omega)
    have hp : atN l n < l.length := by
      rcases Nat.lt_or_ge (atN l n) l.length with h2 | h2
      · exact h2
      · have h3 := (h1.end' (by omega)).1
        have h4 := congrArg List.length h3
        simp at h4; unfold countN at h; omega
    have h2 := h1.step hp
    have h3 := h2.take
    have hl : ((tk l).take n ++ [decodeL (l.drop (atN l n))]).length = n + 1 := by unfold countN at h; simp; omega
    rw [hl] at h3
    rw [h3] at h2
    have h4 := h2.2.2
    have : atN l (n + 1) = atN l n + (decodeL (l.drop (atN l n))).2 := h4
    rw [this]
    exact h2
theorem atN_full (l : Bs) : atN l (countN l) = l.length := by have := (Cut.full l).at'; unfold countN; exact this

theorem ofT_cut {l : Bs} {a : List (Nat × Nat)} {p q : Nat} (h : Cut l a p) (hl : p < l.length) (h1 : p ≤ q) (h2 : q < p + (decodeL (l.drop p)).2) : ofT (tk l) q = a.length := by
  have hne : l.drop p ≠ [] := by intro e; have := congrArg List.length e; simp at this; omega
  rw [h.2.1, ofT_append _ _ _ (by rw [h.2.2]; exact h1), h.2.2, tk_cons _ hne, ofT, if_pos (by omega)]
  omega
theorem ofT_end (l : Bs) : ofT (tk l) l.length = countN l := by
  have h := Cut.full l
  have := ofT_append (tk l) [] l.length (by rw [h.2.2]; exact Nat.le_refl _)
  simpa [h.2.2, ofT, countN] using this

theorem bordT_iff (l : Bs) (p : Nat) (hp : p ≤ l.length) : bordT (tk l) p = true ↔ Border l p := by
  obtain ⟨a, q, ha, hq, h⟩ := Cut.find l p hp
  rw [ha.2.1, bordT_append _ _ _ (by rw [ha.2.2]; exact hq) ha.pos, ha.2.2]
  by_cases e : q = p
  · subst e
    rw [Nat.sub_self]
    constructor
    · intro _; exact ⟨a, ha⟩
    · intro _; cases tk (l.drop q) <;> rfl
  · rcases h with ⟨h1, h2⟩ | ⟨h1, h2⟩
    · have hne : l.drop q ≠ [] := by intro e; have := congrArg List.length e; simp at this; omega
      obtain ⟨m, hm⟩ : ∃ m, p - q = m + 1 := ⟨p - q - 1, by omega⟩
      rw [hm, tk_cons _ hne, bordT, if_pos (by omega)]
      constructor
      · intro h; cases h
      · intro hb; exact absurd hb (not_border_within ⟨a, ha⟩ (by omega) h2 h1)
    · exact absurd h2 e

/-- Begins, of any number. -/
def begB (l : Bs) (at' : Int) : Bool := decide (0 ≤ at') && decide (at' ≤ (l.length : Int)) && bordT (tk l) at'.toNat
/-- At, of any number: the place and the error. -/
def atZ (l : Bs) (c : Int) : Int × Int := if 0 ≤ c ∧ c ≤ (countN l : Int) then ((atN l c.toNat : Nat), 0) else (0, 6)
/-- Of, of any number. -/
def ofZ (l : Bs) (at' : Int) : Int × Int := if 0 ≤ at' ∧ at' ≤ (l.length : Int) then ((ofT (tk l) at'.toNat : Nat), 0) else (0, 6)

/-! ### the last character -/
def lastC (l : Bs) : Nat × Nat := (tk l).getLast?.getD (65533, 1)

theorem lastC_of {l : Bs} {q : Nat} (hb : Border l q) (hq : q < l.length) (hw : q + (decodeL (l.drop q)).2 = l.length) : lastC l = decodeL (l.drop q) := by
  obtain ⟨a, ha⟩ := hb
  have h1 := ha.step hq
  have h2 := (h1.end' (by omega)).1
  unfold lastC
  rw [← h2]
  simp

/-- the last byte is a character by itself, and wrong -/
theorem lastC_wrong {l : Bs} (hl : 1 ≤ l.length) (hf : Fol (by' l (l.length - 1))) (hb : Border l (l.length - 1)) : lastC l = (65533, 1) := by
  have hd := dec_fol (l.drop (l.length - 1)) (by rw [by_drop, Nat.add_zero]; exact hf)
  rw [← hd]
  exact lastC_of hb (by omega) (by rw [hd]; simp; omega)

/-- What a look back from the end finds: k bytes ahead of it the nearest byte that does not follow. -/
theorem lastC_back {l : Bs} {k : Nat} (hk : 1 ≤ k) (hkl : k ≤ l.length) (hf : ∀ j, 1 ≤ j → j < k → Fol (by' l (l.length - j))) (hn : ¬ Fol (by' l (l.length - k))) :
    ((decodeL (l.drop (l.length - k))).2 = k → lastC l = decodeL (l.drop (l.length - k))) ∧
    ((decodeL (l.drop (l.length - k))).2 ≠ k → lastC l = (65533, 1)) := by
  have hb := border_nofol l (l.length - k) (by omega) hn
  refine ⟨fun h => lastC_of hb (by omega) (by omega), fun h => ?_⟩
  have hne : l.drop (l.length - k) ≠ [] := by intro e; have := congrArg List.length e; simp at this; omega
  have hw := wid_le _ hne
  have hw1 := (wid_bounds (l.drop (l.length - k))).1
  simp at hw
  have hk2 : 2 ≤ k := by omega
  have hfl := hf 1 (by omega) (by omega)
  refine lastC_wrong (by omega) hfl ?_
  have e : l.length - k = (l.length - 1) - (k - 1) := by omega
  rw [border_iff_back (k := k - 1) (by omega) (by omega) (by omega) (by rw [← e]; exact hn) (fun i h1 h2 => ?_)]
  · rw [← e]; omega
  · have := hf (l.length - i) (by omega) (by omega)
    rwa [show l.length - (l.length - i) = i from by omega] at this

theorem lastC_far {l : Bs} (hl : 1 ≤ l.length) (hf : ∀ j, 1 ≤ j → j ≤ 4 → j ≤ l.length → Fol (by' l (l.length - j))) : lastC l = (65533, 1) := by
  have hfl := hf 1 (by omega) (by omega) hl
  refine lastC_wrong hl hfl ?_
  have h0 : ∀ i, l.length - 4 ≤ i → i < l.length → Fol (by' l i) := fun i h1 h2 => by
    have := hf (l.length - i) (by omega) (by omega) (by omega)
    rwa [show l.length - (l.length - i) = i from by omega] at this
  by_cases h : l.length ≤ 4
  · exact border_far (k := l.length - 1) (by omega) (.inr rfl) (Nat.le_refl _) (fun i _ h2 => h0 i (by omega) (by omega))
  · exact border_far (k := 3) (by omega) (.inl rfl) (by omega) (fun i h1 h2 => h0 i (by omega) (by omega))

end Go.Proofs.YticonolnagcakaaDoor

namespace Go.Proofs.YticonolnagcakaaDoor
open Go.RowKit

/-- The library's two tables, as they are laid. -/
def Tabs (w : World) : Prop := Lib.Utf8Tabs 1 2 w
theorem Tabs.below {w w' : World} (h : Tabs w) {B : Nat} (hb : Below B w w') (hB : w.heap.size ≤ B) : Tabs w' := by
  refine ⟨fun c hc => ?_, fun i hi => ⟨?_, ?_⟩⟩
  · have := h.1 c hc
    exact (hb.cell (p := ⟨_, c, none⟩) (by have := World.block_lt_of_cell? w _ this; omega)).trans this
  · have := (h.2 i hi).1
    exact (hb.cell (p := ⟨_, 2 * i, none⟩) (by have := World.block_lt_of_cell? w _ this; omega)).trans this
  · have := (h.2 i hi).2
    exact (hb.cell (p := ⟨_, 2 * i + 1, none⟩) (by have := World.block_lt_of_cell? w _ this; omega)).trans this

/-- does a byte follow? -/
def folB (b : Nat) : Bool := decide (Fol b)
theorem folB_t {b : Nat} (h : Fol b) : folB b = true := decide_eq_true h
theorem folB_f {b : Nat} (h : ¬ Fol b) : folB b = false := decide_eq_false h
theorem and_192 : ∀ b : Fin 256, (bits .and .u8 ((b.val : Nat) : Int) 192 == 128) = decide (128 ≤ b.val ∧ b.val < 192) := by decide +kernel
theorem and_fol (b : Nat) (h : b < 256) : (bits .and .u8 (b : Int) 192 == 128) = folB b := and_192 ⟨b, h⟩

abbrev bs (s : ByteArray) : Bs := s.data.toList
theorem size_bs (s : ByteArray) : s.size = (bs s).length := Lib.size_eq s
theorem bs_ne {s : ByteArray} (h : s.size ≠ 0) : bs s ≠ [] := by intro e; rw [size_bs, e] at h; simp at h
theorem get_bs (s : ByteArray) (i : Nat) (h : i < s.size) : (s[i]'h).toNat = by' (bs s) i := by
  have e : (bs s)[i]? = some (s[i]'h) := by
    rw [List.getElem?_eq_getElem (by rw [← size_bs]; exact h)]
    rfl
  unfold by'
  rw [List.getD, e]
  rfl
theorem bs_extract (s : ByteArray) (a b : Nat) : bs (s.extract a b) = ((bs s).drop a).take (b - a) := Lib.extract_data s a b
theorem bs_drop (s : ByteArray) (a : Nat) : bs (s.extract a s.size) = (bs s).drop a := by
  rw [bs_extract, List.take_of_length_le (by simp)]
theorem decode_bs (s : ByteArray) (p : Nat) : Utf8.decode s p = Lib.decodeL ((bs s).drop p) := (Lib.decodeL_drop s p).symm

theorem runeLen_dec (l : Bs) (h : (Lib.decodeL l).1 ≠ 65533) : Lib.runeLen ((Lib.decodeL l).1 : Int) = ((Lib.decodeL l).2 : Int) := by
  have hb := by_lt l 0
  rcases dec_cases l with ⟨a, h0⟩ | ⟨a, h0⟩ | ⟨a, h0⟩ | ⟨a, h0⟩ | ⟨_, _, _, _, h0⟩ <;> rw [h0] at h ⊢ <;> simp only [Lib.runeLen]
  · repeat' split
    all_goals first | rfl | omega
  · obtain ⟨_, _, _, _, _⟩ := a
    unfold n2
    repeat' split
    all_goals first | rfl | omega
  · obtain ⟨_, _, _, _, _, _, _, _, _⟩ := a
    repeat' split
    all_goals first | rfl | (unfold n3 at *; omega)
  · obtain ⟨_, _, _, _, _, _, _, _, _, _, _⟩ := a
    repeat' split
    all_goals first | rfl | omega
  · exact absurd rfl h

/-- Is a first character right? -/
def rightR (r : Int) (n : Nat) : Bool := !(r == 65533 && n == 1)
theorem rightR_ne {r : Int} (h : r ≠ 65533) (n : Nat) : rightR r n = true := by simp [rightR, h]
theorem rightR_err (n : Nat) (h : 1 ≤ n) : rightR 65533 n = decide ((1 : Int) < (n : Int)) := by
  unfold rightR
  by_cases e : n = 1
  · subst e; rfl
  · have : (1 : Int) < (n : Int) := by omega
    simp [e, this]

theorem decode_any (s : ByteArray) (w : World) (hT : Tabs w) :
    Calls Tryd.prog 65 #[.string s] w fun e w' => e = .returned (.tuple #[.int .i32 (Lib.decodeGo s).1, .int .i64 (Lib.decodeGo s).2]) ∧ Below w.heap.size w w' := Tryd.utf8_DecodeRuneInString s w hT
theorem runeLen_any (r : Int) (w : World) :
    Calls Tryd.prog 64 #[.int .i32 r] w fun e w' => e = .returned (.int .i64 (Lib.runeLen r)) ∧ w = w' := (Tryd.utf8_RuneLen r w).mono fun _ _ ⟨h, k⟩ => ⟨h, k.symm⟩

set_option maxHeartbeats 400000 in
theorem wide_any (s : ByteArray) (r : Int) (n : Nat) (hs : s.size ≠ 0) (hr : ((Lib.decodeL (bs s)).1 : Int) = r) (hn : (Lib.decodeL (bs s)).2 = n) (w : World) (hT : Tabs w) :
    Calls Tryd.prog 54 #[.string s, .int .i32 r] w fun e w' => e = .returned (.int .i64 n) ∧ Below w.heap.size w w' := by
  by_cases h : r = 65533
  · have hd : (r != 65533) = false := by simp [h]
    have hg : Lib.decodeGo s = Lib.decodeL (bs s) := by unfold Lib.decodeGo; rw [if_neg hs, decode_bs, List.drop_zero]
    have hg2 : ((Lib.decodeGo s).2 : Int) = n := by rw [hg, hn]
    have HG := Lib.hid hg2
    clear hg hg2 hr hn h
    go_enter Tryd.func54, Tryd.ntmps54
    go_wp2_with (go_at_call 65; (with_reducible refine (decode_any s w hT).mono ?_); rintro e w' ⟨rfl, hb⟩)
    go_ret
    rw [HG.out]
    exact ⟨rfl, hb⟩
  · have hd : (r != 65533) = true := by simp [h]
    have hr2 := runeLen_dec (bs s) (by omega)
    rw [hr, hn] at hr2
    have HR := Lib.hid hr2
    clear hr2 hr hn h
    go_enter Tryd.func54, Tryd.ntmps54
    go_wp2_with (go_at_call 64; (with_reducible refine (runeLen_any _ _).mono ?_); rintro e w' ⟨rfl, rfl⟩)
    go_ret
    rw [HR.out]
    exact ⟨rfl, Below.refl _ _⟩

theorem below_iter (w : World) (s : ByteArray) (p : Nat) : Below w.heap.size w (w.iter s p) := (Below.refl _ w).alloc (Nat.le_refl _) _
theorem size_iter (w : World) (s : ByteArray) (p : Nat) : (w.iter s p).heap.size = w.heap.size + 1 := by simp [World.iter]

set_option maxHeartbeats 400000 in
theorem first_empty (s : ByteArray) (hs : s.size = 0) (w : World) :
    Calls Tryd.prog 40 #[.string s] w fun e w' => e = .returned (.tuple #[.int .i32 0, .int .i64 0, .bool false]) ∧ Below w.heap.size w w' := by
  have hn : ¬ 0 < s.size := by omega
  have hnx := fun ty => run_next_end (P := Tryd.prog) w s 0 ty hn
  have HS := Lib.hid hs
  clear hs
  go_enter Tryd.func40, Tryd.ntmps40
  go_wp2
  refine wp_loop_rounds 1 ?_
  rw [rounds_succ]
  go_wp2
  go_ret3
  exact ⟨rfl, below_iter _ _ _⟩

set_option maxHeartbeats 400000 in
theorem first_some (s : ByteArray) (r : Int) (n : Nat) (hs : s.size ≠ 0) (hr : ((Lib.decodeL (bs s)).1 : Int) = r) (hn : (Lib.decodeL (bs s)).2 = n) (w : World) (hT : Tabs w) :
    Calls Tryd.prog 40 #[.string s] w fun e w' => e = .returned (.tuple #[.int .i32 r, .int .i64 n, .bool (rightR r n)]) ∧ Below w.heap.size w w' := by
  have hnx := fun ty => run_next_any (P := Tryd.prog) w s 0 ty (by omega)
  rw [decode_bs, List.drop_zero, hr, hn, Nat.zero_add] at hnx
  have hn1 := (wid_bounds (bs s)).1
  rw [hn] at hn1
  have HW := Lib.hid fun p => wide_any s r n hs hr hn (w.iter s p) (hT.below (below_iter w s p) (Nat.le_refl _))
  have hp : 0 < s.size := by omega
  clear hr hn hT hs
  by_cases h : r = 65533
  · subst h
    have HD := Lib.hid (rightR_err n hn1)
    go_enter Tryd.func40, Tryd.ntmps40
    go_wp2
    refine wp_loop_rounds 1 ?_
    rw [rounds_succ]
    go_wp2_with (go_at_call 54; (with_reducible refine (HW.out _).mono ?_); rintro e w' ⟨rfl, hb⟩)
    go_ret3
    rw [HD.out]
    exact ⟨rfl, (below_iter w s n).trans (hb.mono (by rw [size_iter]; omega))⟩
  · have hd : (r != 65533) = true := by simp [h]
    have HD := Lib.hid (rightR_ne h n)
    clear h
    go_enter Tryd.func40, Tryd.ntmps40
    go_wp2
    refine wp_loop_rounds 1 ?_
    rw [rounds_succ]
    go_wp2_with (go_at_call 54; (with_reducible refine (HW.out _).mono ?_); rintro e w' ⟨rfl, hb⟩)
    go_ret3
    rw [HD.out]
    exact ⟨rfl, (below_iter w s n).trans (hb.mono (by rw [size_iter]; omega))⟩

/-! ### Count -/
set_option maxHeartbeats 400000 in
theorem count_any (s : ByteArray) (hs : s.size ≤ 140737488351232) (w : World) :
    Calls Tryd.prog 22 #[.string s] w fun e w' => e = .returned (.int .i64 (countN (bs s))) ∧ Below w.heap.size w w' := by
  go_enter Tryd.func22, Tryd.ntmps22
  go_wp2
  go_loopw [3] (fun n wr => ∃ done p, Cut (bs s) done p ∧ n = .int .i64 (done.length : Nat) ∧ wr = w.iter s p) (fun _ wr => s.size - wr.iterPos w.heap.size)
  case atStart => exact ⟨[], 0, Cut.zero _, rfl, rfl⟩
  case round =>
    obtain ⟨done, p, hc, rfl, rfl⟩ := hrel
    have hle := hc.len_le
    have hpl := hc.1
    rw [← size_bs] at hpl
    by_cases hp : p < s.size
    · have hnx := fun ty => run_next_any (P := Tryd.prog) w s p ty hp
      rw [decode_bs] at hnx
      have hst := hc.step (by rw [← size_bs]; exact hp)
      have hw := (wid_bounds ((bs s).drop p)).1
      obtain ⟨d, hd⟩ : ∃ d, d = Lib.decodeL ((bs s).drop p) := ⟨_, rfl⟩
      rw [← hd] at hnx hst hw
      clear hd hc
      go_wp2
      go_roundw
      case rel => exact ⟨_, _, hst, by simp, rfl⟩
      case measure => simp; omega
    · have hnx := fun ty => run_next_end (P := Tryd.prog) w s p ty hp
      have he := Lib.hid (hc.end' (by rw [← size_bs]; exact hp))
      clear hc
      go_wp2
      go_ret
      rw [he.out.1]
      exact ⟨rfl, below_iter _ _ _⟩
end Go.Proofs.YticonolnagcakaaDoor

namespace Go.Proofs.YticonolnagcakaaDoor
open Go.RowKit
/-- r lies in one of the ranges. -/
def inR (l : List (Int × Int)) (r : Int) : Bool := l.any fun p => decide (p.1 ≤ r) && decide (r ≤ p.2)
def blankL : List (Int × Int) := [(0x9, 0xd), (0x20, 0x20), (0x85, 0x85), (0xa0, 0xa0), (0x1680, 0x1680), (0x2000, 0x200a), (0x2028, 0x2029), (0x202f, 0x202f), (0x205f, 0x205f), (0x3000, 0x3000)]
def wordL : List (Int × Int) := [(0x30, 0x39), (0x41, 0x5a), (0x5f, 0x5f), (0x61, 0x7a), (0xaa, 0xaa), (0xb5, 0xb5), (0xba, 0xba), (0xc0, 0xd6), (0xd8, 0xf6), (0xf8, 0x37d), (0x37f, 0x386), (0x388, 0x52f), (0x531, 0x556), (0x561, 0x587), (0x5d0, 0x5ea), (0x620, 0x669), (0x904, 0x939), (0xe01, 0xe30), (0x10a0, 0x10ff), (0x1e00, 0x1fff), (0x3041, 0x3096), (0x30a1, 0x30fa), (0x3400, 0x4dbf), (0x4e00, 0x9fff), (0xac00, 0xd7a3), (0xf900, 0xfaff), (0xff10, 0xff19), (0xff21, 0xff3a), (0xff41, 0xff5a), (0xff66, 0xff9d), (0x10400, 0x1044f), (0x1d400, 0x1d7ff), (0x20000, 0x2fa1f)]
def zeroL : List (Int × Int) := [(0x0, 0x1f), (0x7f, 0x9f), (0x300, 0x36f), (0x483, 0x489), (0x591, 0x5bd), (0x610, 0x61a), (0x64b, 0x65f), (0x200b, 0x200f), (0x2028, 0x202e), (0x2060, 0x2064), (0x20d0, 0x20ff), (0xfe00, 0xfe0f), (0xfe20, 0xfe2f), (0xfeff, 0xfeff), (0xe0100, 0xe01ef)]
def wideL : List (Int × Int) := [(0x1100, 0x115f), (0x2e80, 0x303e), (0x3041, 0x4dbf), (0x4e00, 0xa4cf), (0xac00, 0xd7a3), (0xf900, 0xfaff), (0xfe30, 0xfe6f), (0xff00, 0xff60), (0xffe0, 0xffe6), (0x1f300, 0x1f64f), (0x1f680, 0x1f6ff), (0x1f900, 0x1f9ff), (0x20000, 0x3fffd)]
def foldL : List (Int × Int × Int × Int) := [(0x41, 0x5a, 1, 0x20), (0xc0, 0xd6, 1, 0x20), (0xd8, 0xde, 1, 0x20), (0x100, 0x12e, 2, 0x1), (0x132, 0x136, 2, 0x1), (0x139, 0x147, 2, 0x1), (0x14a, 0x176, 2, 0x1), (0x178, 0x178, 1, -0x79), (0x179, 0x17d, 2, 0x1), (0x17f, 0x17f, 1, -0x10c), (0x386, 0x386, 1, 0x26), (0x388, 0x38a, 1, 0x25), (0x38c, 0x38c, 1, 0x40), (0x38e, 0x38f, 1, 0x3f), (0x391, 0x3a1, 1, 0x20), (0x3a3, 0x3ab, 1, 0x20), (0x3c2, 0x3c2, 1, 0x1), (0x3d8, 0x3ee, 2, 0x1), (0x400, 0x40f, 1, 0x50), (0x410, 0x42f, 1, 0x20), (0x460, 0x480, 2, 0x1), (0x48a, 0x4be, 2, 0x1), (0x4c1, 0x4cd, 2, 0x1), (0x4d0, 0x52e, 2, 0x1), (0x531, 0x556, 1, 0x30), (0x1e00, 0x1e94, 2, 0x1), (0x1e9e, 0x1e9e, 1, -0x1dbf), (0x1ea0, 0x1efe, 2, 0x1), (0x2126, 0x2126, 1, -0x1d5d), (0x212a, 0x212a, 1, -0x20bf), (0x212b, 0x212b, 1, -0x2046), (0x2160, 0x216f, 1, 0x10), (0x24b6, 0x24cf, 1, 0x1a), (0xff21, 0xff3a, 1, 0x20), (0x10400, 0x10427, 1, 0x28)]
def blankB (r : Int) : Bool := inR blankL r
def wordB (r : Int) : Bool := inR wordL r
def endsB (r : Int) : Bool := inR [(0xa, 0xa), (0xd, 0xd), (0x85, 0x85), (0x2028, 0x2029)] r
def widthN (r : Int) : Nat := if inR zeroL r then 0 else if inR wideL r then 2 else 1
/-- a row of the folds fits r -/
def fitB (r : Int) (q : Int × Int × Int × Int) : Bool := decide (q.1 ≤ r) && decide (r ≤ q.2.1) && (r - q.1) % q.2.2.1 == 0
def foldZ (r : Int) : Int := match foldL.find? (fitB r) with | some q => r + q.2.2.2 | none => r

theorem inR_iff {l : List (Int × Int)} {r : Int} : inR l r = true ↔ ∃ p ∈ l, p.1 ≤ r ∧ r ≤ p.2 := by
  simp [inR, List.any_eq_true]
theorem inR_false {l : List (Int × Int)} {r : Int} : inR l r = false ↔ ∀ p ∈ l, r < p.1 ∨ p.2 < r := by
  simp only [inR, List.any_eq_false, Bool.and_eq_true, decide_eq_true_eq]
  constructor
  · intro h p hp; have := h p hp; omega
  · intro h p hp; have := h p hp; omega

/-- no range of the list meets [a, b] -/
def clear' (l : List (Int × Int)) (a b : Int) : Bool := l.all fun p => decide (b < p.1) || decide (p.2 < a)
theorem clear_out {l : List (Int × Int)} {a b r : Int} (h : clear' l a b = true) (h1 : a ≤ r) (h2 : r ≤ b) : inR l r = false := by
  rw [inR_false]
  intro p hp
  have := (List.all_eq_true.1 h) p hp
  simp at this
  omega

/-- a range of the list holds [a, b] -/
def whole (l : List (Int × Int)) (a b : Int) : Bool := l.any fun p => decide (p.1 ≤ a) && decide (b ≤ p.2)
theorem whole_in {l : List (Int × Int)} {a b r : Int} (h : whole l a b = true) (h1 : a ≤ r) (h2 : r ≤ b) : inR l r = true := by
  obtain ⟨p, hp, hq⟩ := List.any_eq_true.1 h
  simp at hq
  exact inR_iff.2 ⟨p, hp, by omega, by omega⟩

/-- What is folded: it was in a row that fits. -/
theorem fold_cases (r : Int) : (foldZ r = r ∧ ∀ q ∈ foldL, fitB r q = false) ∨ ∃ q ∈ foldL, fitB r q = true ∧ foldZ r = r + q.2.2.2 := by
  unfold foldZ
  cases h : foldL.find? (fitB r) with
  | none => exact .inl ⟨rfl, fun q hq => by have := List.find?_eq_none.1 h q hq; simpa using this⟩
  | some q => exact .inr ⟨q, List.mem_of_find?_eq_some h, List.find?_some h, rfl⟩
theorem fit_iff {r : Int} {q : Int × Int × Int × Int} : fitB r q = true ↔ q.1 ≤ r ∧ r ≤ q.2.1 ∧ (r - q.1) % q.2.2.1 = 0 := by
  simp [fitB, and_assoc]

/-- each row of the folds: neither what is folded nor what comes of it is a blank, nor takes another width than 1 -/
def rowOk (q : Int × Int × Int × Int) : Bool :=
  clear' blankL q.1 q.2.1 && clear' blankL (q.1 + q.2.2.2) (q.2.1 + q.2.2.2) && clear' zeroL q.1 q.2.1 && clear' zeroL (q.1 + q.2.2.2) (q.2.1 + q.2.2.2) && (clear' wideL q.1 q.2.1 && clear' wideL (q.1 + q.2.2.2) (q.2.1 + q.2.2.2) || whole wideL q.1 q.2.1 && whole wideL (q.1 + q.2.2.2) (q.2.1 + q.2.2.2))
theorem rows_ok : ∀ q ∈ foldL, rowOk q = true := by decide +kernel
theorem fold_kind (r : Int) : blankB (foldZ r) = blankB r ∧ widthN (foldZ r) = widthN r := by
  rcases fold_cases r with ⟨h, _⟩ | ⟨q, hq, hf, h⟩
  · rw [h]; exact ⟨rfl, rfl⟩
  · have hk := rows_ok q hq
    obtain ⟨h1, h2, _⟩ := fit_iff.1 hf
    unfold rowOk at hk
    simp only [Bool.and_eq_true, Bool.or_eq_true] at hk
    obtain ⟨⟨⟨⟨k1, k2⟩, k3⟩, k4⟩, k5⟩ := hk
    rw [h]
    unfold blankB widthN
    rw [clear_out k1 h1 h2, clear_out k2 (by omega) (by omega), clear_out k3 h1 h2, clear_out k4 (by omega) (by omega)]
    rcases k5 with ⟨k5, k6⟩ | ⟨k5, k6⟩
    · rw [clear_out k5 h1 h2, clear_out k6 (by omega) (by omega)]
      exact ⟨rfl, rfl⟩
    · rw [whole_in k5 h1 h2, whole_in k6 (by omega) (by omega)]
      exact ⟨rfl, rfl⟩

/-- two rows of the folds: what comes of the one does not fit the other -/
def apartOk (q p : Int × Int × Int × Int) : Bool :=
  decide (q.2.1 + q.2.2.2 < p.1) || decide (p.2.1 < q.1 + q.2.2.2) || (decide (p.2.2.1 = 2) && decide (q.2.2.1 = 2) && decide ((q.1 + q.2.2.2 - p.1) % 2 = 1)) || (decide (q.1 = q.2.1) && (p.2.2.1 == 2) && decide ((q.1 + q.2.2.2 - p.1) % 2 = 1))
theorem rows_apart' : ∀ q ∈ foldL, ∀ p ∈ foldL, apartOk q p = true := by decide +kernel
theorem fold_fold (r : Int) : foldZ (foldZ r) = foldZ r := by
  rcases fold_cases r with ⟨h, _⟩ | ⟨q, hq, hf, h⟩
  · rw [h, h]
  · rw [h]
    rcases fold_cases (r + q.2.2.2) with ⟨h', _⟩ | ⟨p, hp, hg, _⟩
    · exact h'
    · exfalso
      obtain ⟨f1, f2, f3⟩ := fit_iff.1 hf
      obtain ⟨g1, g2, g3⟩ := fit_iff.1 hg
      have hk := rows_apart' q hq p hp
      unfold apartOk at hk
      simp only [Bool.or_eq_true, Bool.and_eq_true, decide_eq_true_eq, beq_iff_eq] at hk
      rcases hk with ((hk | hk) | ⟨⟨hk1, hk2⟩, hk3⟩) | ⟨⟨hk1, hk2⟩, hk3⟩
      · omega
      · omega
      · rw [hk1] at g3; rw [hk2] at f3; omega
      · rw [hk2] at g3; omega

theorem blank_word (r : Int) : blankB r = true → wordB r = false := by
  intro h
  obtain ⟨p, hp, h1, h2⟩ := inR_iff.1 h
  have : ∀ p ∈ blankL, clear' wordL p.1 p.2 = true := by decide +kernel
  exact clear_out (this p hp) h1 h2
theorem ends_blank (r : Int) : endsB r = true → blankB r = true ∧ widthN r = 0 := by
  intro h
  have : r = 0xa ∨ r = 0xd ∨ r = 0x85 ∨ r = 0x2028 ∨ r = 0x2029 := by
    obtain ⟨p, hp, h1, h2⟩ := inR_iff.1 h
    simp at hp
    rcases hp with rfl | rfl | rfl | rfl <;> simp at h1 h2 <;> omega
  rcases this with rfl | rfl | rfl | rfl | rfl <;> decide +kernel
end Go.Proofs.YticonolnagcakaaDoor

namespace Go.Proofs.YticonolnagcakaaDoor
open Go.RowKit


theorem put_same {a : Act} {i : Nat} {v : Value} (h : i < a.tmps.size) : (a.put (some i) v).tmps[i]? = some v := by
  simp [Act.put, h]
theorem put_other {a : Act} {i j : Nat} {v : Value} (h : i ≠ j) : (a.put (some i) v).tmps[j]? = a.tmps[j]? := by
  simp [Act.put, h]
theorem put_size {a : Act} {i : Nat} {v : Value} : (a.put (some i) v).tmps.size = a.tmps.size := by simp [Act.put]
theorem put_defers {a : Act} {i : Nat} {v : Value} : (a.put (some i) v).defers = a.defers := rfl
theorem eval_of {a : Act} {i : Nat} {v : Value} (h : a.tmps[i]? = some v) : a.eval (.tmp i) = v := by
  simp [Act.eval, Array.getD_eq_getD_getElem?, h]

theorem wpl_value {P : Program} {ops : Array Oper} {Q : Exit → Act → World → Prop} {rest : List Oper} {o : Oper} {a : Act} {w : World} {v : Value} {d : Nat} (hw : Region.wanted o (yielded ops a.tmps) = true) (hd : o.dst = some d)
    (he : (execOp a.eval o).run P w = .ok (.value v) w) (h : wpList P ops Q rest (a.put (some d) v) w) : wpList P ops Q (o :: rest) a w := by
  refine wpList_step fun K hK => ?_
  rw [if_pos hw]
  unfold Oper.wp
  rw [he]
  show K (a.put o.dst v) w
  rw [hd]
  exact hK _ _ h
theorem wpl_skip {P : Program} {ops : Array Oper} {Q : Exit → Act → World → Prop} {rest : List Oper} {o : Oper} {a : Act} {w : World} {d : Nat} (hw : Region.wanted o (yielded ops a.tmps) = false) (hd : o.dst = some d)
    (h : wpList P ops Q rest (a.put (some d) undef) w) : wpList P ops Q (o :: rest) a w := by
  refine wpList_skip hw ?_
  rw [hd]
  exact h
theorem run_move {P : Program} {a : Act} {w : World} {d : Nat} {x : Operand} {ty : TypeId} {p : String} {f : Array Edge} {g : Option (Nat × Bool)} {v : Value} (h : a.eval x = v) : (execOp a.eval { dst := some d, op := .move x, type := ty, pos := p, after := f, guard := g }).run P w = .ok (.value v) w := by
  subst h
  simp [go_sem]

/-- The frame: its first slot is the rune, nothing is deferred. -/
structure Rn (a : Act) (n : Nat) (r : Int) : Prop where
  size : a.tmps.size = n
  zero : a.tmps[0]? = some (.int .i32 r)
  defs : a.defers = []
theorem Rn.put {a : Act} {n : Nat} {r : Int} (h : Rn a n r) {i : Nat} (hi : 0 < i) (v : Value) : Rn (a.put (some i) v) n r :=
  ⟨by rw [put_size]; exact h.size, by rw [put_other (by omega)]; exact h.zero, h.defs⟩

theorem run_geq {P : Program} {a : Act} {w : World} {d : Nat} {x y : Operand} {t ty : TypeId} {p : String} {f : Array Edge} {g : Option (Nat × Bool)} {u v : Int} (hx : a.eval x = .int .i32 u) (hy : a.eval y = .int .i32 v) :
    (execOp a.eval { dst := some d, op := .binOp .geq t x y t, type := ty, pos := p, after := f, guard := g }).run P w = .ok (.value (.bool (decide (v ≤ u)))) w := by
  generalize a.eval = ρ at hx hy ⊢
  simp [go_sem, hx, hy]
theorem run_leq {P : Program} {a : Act} {w : World} {d : Nat} {x y : Operand} {t ty : TypeId} {p : String} {f : Array Edge} {g : Option (Nat × Bool)} {u v : Int} (hx : a.eval x = .int .i32 u) (hy : a.eval y = .int .i32 v) :
    (execOp a.eval { dst := some d, op := .binOp .leq t x y t, type := ty, pos := p, after := f, guard := g }).run P w = .ok (.value (.bool (decide (u ≤ v)))) w := by
  generalize a.eval = ρ at hx hy ⊢
  simp [go_sem, hx, hy]
theorem run_eql {P : Program} {a : Act} {w : World} {d : Nat} {x y : Operand} {t ty : TypeId} {p : String} {f : Array Edge} {g : Option (Nat × Bool)} {u v : Int} (hx : a.eval x = .int .i32 u) (hy : a.eval y = .int .i32 v) :
    (execOp a.eval { dst := some d, op := .binOp .eql t x y t, type := ty, pos := p, after := f, guard := g }).run P w = .ok (.value (.bool (u == v))) w := by
  generalize a.eval = ρ at hx hy ⊢
  simp [go_sem, hx, hy]
theorem run_assign {P : Program} {a : Act} {w : World} {d : Nat} {x : Operand} {ty : TypeId} {p : String} {f : Array Edge} {g : Option (Nat × Bool)} {v : Value} (h : a.eval x = v) : (execOp a.eval { dst := some d, op := .assign x, type := ty, pos := p, after := f, guard := g }).run P w = .ok (.value v) w := by
  subst h
  simp [go_sem]
theorem run_pick {P : Program} {a : Act} {w : World} {d : Nat} {x y z : Operand} {ty : TypeId} {p : String} {f : Array Edge} {g : Option (Nat × Bool)} {b : Bool} {v : Value} (h : a.eval x = .bool b) (h1 : (if b = true then a.eval y else a.eval z) = v) : (execOp a.eval { dst := some d, op := .pick x y z, type := ty, pos := p, after := f, guard := g }).run P w = .ok (.value v) w := by
  subst h1
  generalize a.eval = ρ at h ⊢
  cases b <;> simp [go_sem, h]

theorem eval_const' (a : Act) (v : Value) : a.eval (.const v) = v := rfl

theorem range_test {P : Program} {Q : Exit → Act → World → Prop} {a : Act} {w : World} {n : Nat} {r : Int} {id k d : Nat} {lo hi : Int} {tt tb : TypeId} {p1 p2 p3 p4 p5 p6 p7 : String} {f1 f2 f3 f4 f5 f6 f7 : Array Edge} (ha : Rn a n r) (hd : 0 < d) (hk : d < k) (hn : k + 5 < n)
    (h : ∀ a', Rn a' n r → a'.tmps[d]? = some (.bool (decide (lo ≤ r) && decide (r ≤ hi))) → Q .normal a' w) :
    (Code.region id #[{ dst := some k, op := .move (.tmp 0), type := tt, pos := p1, after := f1, guard := none },
      { dst := some (k + 1), op := .binOp .geq tt (.tmp k) (.const (.int .i32 lo)) tt, type := tb, pos := p2, after := f2, guard := none },
      { dst := some (k + 2), op := .move (.tmp (k + 1)), type := tb, pos := p3, after := f3, guard := none },
      { dst := some (k + 3), op := .move (.tmp 0), type := tt, pos := p4, after := f4, guard := some (2, true) },
      { dst := some (k + 4), op := .binOp .leq tt (.tmp (k + 3)) (.const (.int .i32 hi)) tt, type := tb, pos := p5, after := f5, guard := some (2, true) },
      { dst := some (k + 5), op := .pick (.tmp (k + 2)) (.tmp (k + 4)) (.const (.bool false)), type := tb, pos := p6, after := f6, guard := none },
      { dst := some d, op := .assign (.tmp (k + 5)), type := tb, pos := p7, after := f7, guard := none }] false).wp P Q a w := by
  have hs := ha.size
  refine wp_region_lit ?_
  refine wpl_value rfl rfl (run_move (eval_of ha.zero)) ?_
  have h1 := ha.put (i := k) (by omega) (.int .i32 r)
  have s1 := h1.size
  refine wpl_value rfl rfl (run_geq (eval_of (put_same (by omega))) (eval_const' _ _)) ?_
  have h2 := h1.put (i := k + 1) (by omega) (.bool (decide (lo ≤ r)))
  have s2 := h2.size
  refine wpl_value rfl rfl (run_move (eval_of (put_same (by omega)))) ?_
  have h3 := h2.put (i := k + 2) (by omega) (.bool (decide (lo ≤ r)))
  have s3 := h3.size
  have q3 := put_same (a := (a.put (some k) (.int .i32 r)).put (some (k + 1)) (.bool (decide (lo ≤ r)))) (i := k + 2) (v := .bool (decide (lo ≤ r))) (by omega)
  generalize ((a.put (some k) (.int .i32 r)).put (some (k + 1)) (.bool (decide (lo ≤ r)))).put (some (k + 2)) (.bool (decide (lo ≤ r))) = A at h3 s3 q3 ⊢
  clear h1 s1 h2 s2
  by_cases hlo : lo ≤ r
  · have e : decide (lo ≤ r) = true := decide_eq_true hlo
    rw [e] at q3
    refine wpl_value (by simp [Region.wanted, yielded, q3]) rfl (run_move (eval_of h3.zero)) ?_
    have h4 := h3.put (i := k + 3) (by omega) (.int .i32 r)
    have s4 := h4.size
    refine wpl_value (by simp [Region.wanted, yielded, put_other, q3]) rfl (run_leq (eval_of (put_same (by omega))) (eval_const' _ _)) ?_
    have h5 := h4.put (i := k + 4) (by omega) (.bool (decide (r ≤ hi)))
    have s5 := h5.size
    refine wpl_value rfl rfl (run_pick (b := true) (v := .bool (decide (r ≤ hi))) (eval_of (by rw [put_other (by omega), put_other (by omega)]; exact q3)) (by rw [if_pos rfl]; exact eval_of (put_same (by omega)))) ?_
    have h6 := h5.put (i := k + 5) (by omega) (.bool (decide (r ≤ hi)))
    have s6 := h6.size
    refine wpl_value rfl rfl (run_assign (eval_of (put_same (by omega)))) ?_
    exact h _ (h6.put hd _) (by rw [put_same (by omega), e, Bool.true_and])
  · have e : decide (lo ≤ r) = false := decide_eq_false hlo
    rw [e] at q3
    refine wpl_skip (by simp [Region.wanted, yielded, q3]) rfl ?_
    have h4 := h3.put (i := k + 3) (by omega) undef
    have s4 := h4.size
    refine wpl_skip (by simp [Region.wanted, yielded, put_other, q3]) rfl ?_
    have h5 := h4.put (i := k + 4) (by omega) undef
    have s5 := h5.size
    refine wpl_value rfl rfl (run_pick (b := false) (v := .bool false) (eval_of (by rw [put_other (by omega), put_other (by omega)]; exact q3)) (by rw [if_neg Bool.false_ne_true]; exact eval_const' _ _)) ?_
    have h6 := h5.put (i := k + 5) (by omega) (.bool false)
    have s6 := h6.size
    refine wpl_value rfl rfl (run_assign (eval_of (put_same (by omega)))) ?_
    exact h _ (h6.put hd _) (by rw [put_same (by omega), e, Bool.false_and])

theorem eq_test {P : Program} {Q : Exit → Act → World → Prop} {a : Act} {w : World} {n : Nat} {r : Int} {id k d : Nat} {c : Int} {tt tb : TypeId} {p1 p2 p3 : String} {f1 f2 f3 : Array Edge} (ha : Rn a n r) (hd : 0 < d) (hk : d < k) (hn : k + 1 < n)
    (h : ∀ a', Rn a' n r → a'.tmps[d]? = some (.bool (r == c)) → Q .normal a' w) :
    (Code.region id #[{ dst := some k, op := .move (.tmp 0), type := tt, pos := p1, after := f1, guard := none },
      { dst := some (k + 1), op := .binOp .eql tt (.tmp k) (.const (.int .i32 c)) tt, type := tb, pos := p2, after := f2, guard := none },
      { dst := some d, op := .assign (.tmp (k + 1)), type := tb, pos := p3, after := f3, guard := none }] false).wp P Q a w := by
  have hs := ha.size
  refine wp_region_lit ?_
  refine wpl_value rfl rfl (run_move (eval_of ha.zero)) ?_
  have h1 := ha.put (i := k) (by omega) (.int .i32 r)
  have s1 := h1.size
  refine wpl_value rfl rfl (run_eql (eval_of (put_same (by omega))) (eval_const' _ _)) ?_
  have h2 := h1.put (i := k + 1) (by omega) (.bool (r == c))
  have s2 := h2.size
  refine wpl_value rfl rfl (run_assign (eval_of (put_same (by omega)))) ?_
  exact h _ (h2.put hd _) (put_same (by omega))

/-! ### Chains -/
/-- The code leaves in slot d whether .. , and the rune where it was. -/
def Chain (P : Program) (c : Code) (n d : Nat) (r : Int) (B : Bool) : Prop :=
  ∀ (Q : Exit → Act → World → Prop) (a : Act) (w : World), Rn a n r → (∀ a', Rn a' n r → a'.tmps[d]? = some (.bool B) → Q .normal a' w) → c.wp P Q a w

theorem inR_cons (p : Int × Int) (l : List (Int × Int)) (r : Int) : inR (p :: l) r = ((decide (p.1 ≤ r) && decide (r ≤ p.2)) || inR l r) := rfl
theorem inR_one (lo hi r : Int) : inR [(lo, hi)] r = (decide (lo ≤ r) && decide (r ≤ hi)) := by simp [inR]
theorem inR_eq (c r : Int) : inR [(c, c)] r = (r == c) := by
  rw [inR_one]
  by_cases h : r = c
  · subst h; simp
  · rw [beq_eq_false_iff_ne.2 h]
    by_cases h1 : c ≤ r
    · have : ¬ r ≤ c := by omega
      simp [this]
    · simp [h1]

theorem chain_range {P : Program} {n : Nat} {r : Int} {id k d : Nat} {lo hi : Int} {tt tb : TypeId} {p1 p2 p3 p4 p5 p6 p7 : String} {f1 f2 f3 f4 f5 f6 f7 : Array Edge} (hd : 0 < d) (hk : d < k) (hn : k + 5 < n) :
    Chain P (Code.region id #[{ dst := some k, op := .move (.tmp 0), type := tt, pos := p1, after := f1, guard := none },
      { dst := some (k + 1), op := .binOp .geq tt (.tmp k) (.const (.int .i32 lo)) tt, type := tb, pos := p2, after := f2, guard := none },
      { dst := some (k + 2), op := .move (.tmp (k + 1)), type := tb, pos := p3, after := f3, guard := none },
      { dst := some (k + 3), op := .move (.tmp 0), type := tt, pos := p4, after := f4, guard := some (2, true) },
      { dst := some (k + 4), op := .binOp .leq tt (.tmp (k + 3)) (.const (.int .i32 hi)) tt, type := tb, pos := p5, after := f5, guard := some (2, true) },
      { dst := some (k + 5), op := .pick (.tmp (k + 2)) (.tmp (k + 4)) (.const (.bool false)), type := tb, pos := p6, after := f6, guard := none },
      { dst := some d, op := .assign (.tmp (k + 5)), type := tb, pos := p7, after := f7, guard := none }] false) n d r (inR [(lo, hi)] r) :=
  fun Q a w ha h => range_test ha hd hk hn (by rw [inR_one] at h; exact h)
theorem chain_eq {P : Program} {n : Nat} {r : Int} {id k d : Nat} {c : Int} {tt tb : TypeId} {p1 p2 p3 : String} {f1 f2 f3 : Array Edge} (hd : 0 < d) (hk : d < k) (hn : k + 1 < n) :
    Chain P (Code.region id #[{ dst := some k, op := .move (.tmp 0), type := tt, pos := p1, after := f1, guard := none },
      { dst := some (k + 1), op := .binOp .eql tt (.tmp k) (.const (.int .i32 c)) tt, type := tb, pos := p2, after := f2, guard := none },
      { dst := some d, op := .assign (.tmp (k + 1)), type := tb, pos := p3, after := f3, guard := none }] false) n d r (inR [(c, c)] r) :=
  fun Q a w ha h => eq_test ha hd hk hn (by rw [inR_eq] at h; exact h)
theorem chain_or {P : Program} {n : Nat} {r : Int} {d : Nat} {x y : Code} {p : Int × Int} {l : List (Int × Int)} (hx : Chain P x n d r (inR [p] r)) (hy : Chain P y n d r (inR l r)) :
    Chain P (x.seq (Code.cond (.tmp d) Code.skip y)) n d r (inR (p :: l) r) := by
  intro Q a w ha h
  refine wp_seq (hx _ a w ha (fun a' ha' hb => ?_))
  show (Code.cond (.tmp d) Code.skip y).wp P Q a' w
  have e : inR (p :: l) r = (inR [p] r || inR l r) := by rw [inR_cons, inR_one]
  rw [e] at h
  refine wp_cond (eval_of hb) ?_
  cases hc : inR [p] r
  · rw [if_neg Bool.false_ne_true]
    refine hy Q a' w ha' (fun a2 h2 hb2 => h a2 h2 ?_)
    rw [hc, Bool.false_or]
    exact hb2
  · rw [if_pos rfl]
    refine wp_skip (h a' ha' ?_)
    rw [hc] at hb ⊢
    rw [Bool.true_or]
    exact hb

/-- A constant is laid into a slot. -/
theorem seq_set {P : Program} {Q : Exit → Act → World → Prop} {a : Act} {w : World} {n : Nat} {r : Int} {id d : Nat} {v : Value} {ty : TypeId} {p : String} {f : Array Edge} {y : Code} (ha : Rn a n r) (hd : 0 < d) (hn : d < n)
    (h : ∀ a', Rn a' n r → a'.tmps[d]? = some v → y.wp P Q a' w) : ((Code.region id #[{ dst := some d, op := .assign (.const v), type := ty, pos := p, after := f, guard := none }] false).seq y).wp P Q a w := by
  have hs := ha.size
  refine wp_seq (wp_region_lit ?_)
  refine wpl_value rfl rfl (run_assign rfl) ?_
  exact h _ (ha.put hd v) (put_same (by omega))

/-- A function of one rune, its result in slot 2. -/
theorem calls_rn {P : Program} {f : FuncId} {fn : Func} {c : Code} {n : Nat} {r : Int} {w : World} {R : Ending → World → Prop} (hf : P.funcs[f]? = some fn) (hb : fn.body = some c) (hn : fn.ntmps = n) (h1 : 1 ≤ n) (hr : fn.results = #[ResultVar.tmp 2])
    (h : ∀ a, Rn a n r → c.wp P (fun e a' w' => e = .ret ∧ w' = w ∧ ∃ v, a'.tmps[2]? = some v ∧ a'.defers = [] ∧ R (.returned v) w) a w) : Calls P f #[.int .i32 r] w R := by
  refine calls_of_wp hf hb ?_
  have ha : Rn { tmps := #[.int .i32 r] ++ Array.replicate (fn.ntmps - #[Value.int .i32 r].size) undef, defers := [] } n r := by
    refine ⟨?_, ?_, rfl⟩
    · simp; omega
    · rw [Array.getElem?_append_left (by simp)]; rfl
  refine wp_mono (h _ ha) ?_
  rintro e a' w' ⟨rfl, rfl, v, h2, h3, h4⟩
  refine ⟨h3, v, ?_, h4⟩
  simp [results, hr, go_sem, h2]

/-- 'result = constant; return'. -/
theorem ret_set {P : Program} {Q : Exit → Act → World → Prop} {a : Act} {w : World} {n : Nat} {r : Int} {id : Nat} {v : Value} {ty : TypeId} {p : String} {f : Array Edge} (ha : Rn a n r) (hn : 2 < n)
    (h : ∀ a', Rn a' n r → a'.tmps[2]? = some v → Q .ret a' w) : ((Code.region id #[{ dst := some 2, op := .assign (.const v), type := ty, pos := p, after := f, guard := none }] false).seq Code.ret).wp P Q a w :=
  seq_set ha (by decide) hn fun a' h' hv => wp_ret (h a' h' hv)
/-- 'switch { case a, b, ..: return u }; return v'. -/
theorem or_fn {P : Program} {Q : Exit → Act → World → Prop} {a : Act} {w : World} {n d bl i1 i2 : Nat} {r : Int} {B : Bool} {c : Code} {u v : Value} {t1 t2 : TypeId} {p1 p2 : String} {f1 f2 : Array Edge} (hc : Chain P c n d r B) (ha : Rn a n r) (hn : 2 < n)
    (h : ∀ a', Rn a' n r → a'.tmps[2]? = some (if B = true then u else v) → Q .ret a' w) :
    ((Code.block bl (c.seq (Code.cond (.tmp d) ((Code.region i1 #[{ dst := some 2, op := .assign (.const u), type := t1, pos := p1, after := f1, guard := none }] false).seq Code.ret) Code.skip))).seq
      ((Code.region i2 #[{ dst := some 2, op := .assign (.const v), type := t2, pos := p2, after := f2, guard := none }] false).seq Code.ret)).wp P Q a w := by
  refine wp_seq (wp_block (wp_seq (hc _ a w ha (fun a' ha' hb => ?_))))
  show (Code.cond (.tmp d) _ Code.skip).wp P _ a' w
  refine wp_cond (eval_of hb) ?_
  cases B
  · rw [if_neg Bool.false_ne_true] at h ⊢
    refine wp_skip ?_
    show (Code.seq _ _).wp P Q a' w
    exact ret_set ha' hn h
  · rw [if_pos rfl] at h ⊢
    exact ret_set ha' hn h

/-- 'case ..: x': on with y. -/
theorem case_more {P : Program} {Q : Exit → Act → World → Prop} {a : Act} {w : World} {n d : Nat} {r : Int} {B : Bool} {c x y : Code} (hc : Chain P c n d r B) (ha : Rn a n r)
    (hT : B = true → ∀ a', Rn a' n r → x.wp P Q a' w) (hF : B = false → ∀ a', Rn a' n r → y.wp P Q a' w) : (c.seq (Code.cond (.tmp d) x y)).wp P Q a w := by
  refine wp_seq (hc _ a w ha (fun a' ha' hb => ?_))
  show (Code.cond (.tmp d) x y).wp P Q a' w
  refine wp_cond (eval_of hb) ?_
  cases B
  · rw [if_neg Bool.false_ne_true]; exact hF rfl a' ha'
  · rw [if_pos rfl]; exact hT rfl a' ha'
theorem run_lss {P : Program} {a : Act} {w : World} {d : Nat} {x y : Operand} {t ty : TypeId} {p : String} {f : Array Edge} {g : Option (Nat × Bool)} {u v : Int} (hx : a.eval x = .int .i32 u) (hy : a.eval y = .int .i32 v) :
    (execOp a.eval { dst := some d, op := .binOp .lss t x y t, type := ty, pos := p, after := f, guard := g }).run P w = .ok (.value (.bool (decide (u < v)))) w := by
  generalize a.eval = ρ at hx hy ⊢
  simp [go_sem, hx, hy]
theorem run_add {P : Program} {a : Act} {w : World} {d : Nat} {x y : Operand} {t ty : TypeId} {p : String} {f : Array Edge} {g : Option (Nat × Bool)} {u v : Int} (hx : a.eval x = .int .i32 u) (hy : a.eval y = .int .i32 v) :
    (execOp a.eval { dst := some d, op := .binOp .add t x y t, type := ty, pos := p, after := f, guard := g }).run P w = .ok (.value (.int .i32 (IntKind.i32.wrap (u + v)))) w := by
  generalize a.eval = ρ at hx hy ⊢
  simp [go_sem, hx, hy]
theorem run_sub {P : Program} {a : Act} {w : World} {d : Nat} {x y : Operand} {t ty : TypeId} {p : String} {f : Array Edge} {g : Option (Nat × Bool)} {u v : Int} (hx : a.eval x = .int .i32 u) (hy : a.eval y = .int .i32 v) :
    (execOp a.eval { dst := some d, op := .binOp .sub t x y t, type := ty, pos := p, after := f, guard := g }).run P w = .ok (.value (.int .i32 (IntKind.i32.wrap (u - v)))) w := by
  generalize a.eval = ρ at hx hy ⊢
  simp [go_sem, hx, hy]
theorem chain_lss {P : Program} {n : Nat} {r : Int} {id k d : Nat} {c : Int} {tt tb : TypeId} {p1 p2 p3 : String} {f1 f2 f3 : Array Edge} (hd : 0 < d) (hk : d < k) (hn : k + 1 < n) :
    Chain P (Code.region id #[{ dst := some k, op := .move (.tmp 0), type := tt, pos := p1, after := f1, guard := none },
      { dst := some (k + 1), op := .binOp .lss tt (.tmp k) (.const (.int .i32 c)) tt, type := tb, pos := p2, after := f2, guard := none },
      { dst := some d, op := .assign (.tmp (k + 1)), type := tb, pos := p3, after := f3, guard := none }] false) n d r (decide (r < c)) := by
  intro Q a w ha h
  have hs := ha.size
  refine wp_region_lit ?_
  refine wpl_value rfl rfl (run_move (eval_of ha.zero)) ?_
  have h1 := ha.put (i := k) (by omega) (.int .i32 r)
  have s1 := h1.size
  refine wpl_value rfl rfl (run_lss (eval_of (put_same (by omega))) (eval_const' _ _)) ?_
  have h2 := h1.put (i := k + 1) (by omega) (.bool (decide (r < c)))
  have s2 := h2.size
  refine wpl_value rfl rfl (run_assign (eval_of (put_same (by omega)))) ?_
  exact h _ (h2.put hd _) (put_same (by omega))

/-! ### Rows of the folds -/
theorem fit_one {r lo hi c : Int} : fitB r (lo, hi, 1, c) = inR [(lo, hi)] r := by
  rw [inR_one]
  unfold fitB
  simp [Int.emod_one]
/-- 'return r + c'. -/
theorem ret_add {P : Program} {Q : Exit → Act → World → Prop} {a : Act} {w : World} {n : Nat} {r : Int} {id k : Nat} {c v : Int} {tt : TypeId} {p1 p2 p3 : String} {f1 f2 f3 : Array Edge} (ha : Rn a n r) (hk : 2 < k) (hn : k + 1 < n) (hv : IntKind.i32.wrap (r + c) = v)
    (h : ∀ a', Rn a' n r → a'.tmps[2]? = some (.int .i32 v) → Q .ret a' w) :
    ((Code.region id #[{ dst := some k, op := .move (.tmp 0), type := tt, pos := p1, after := f1, guard := none },
      { dst := some (k + 1), op := .binOp .add tt (.tmp k) (.const (.int .i32 c)) tt, type := tt, pos := p2, after := f2, guard := none },
      { dst := some 2, op := .assign (.tmp (k + 1)), type := tt, pos := p3, after := f3, guard := none }] false).seq Code.ret).wp P Q a w := by
  have hs := ha.size
  refine wp_seq (wp_region_lit ?_)
  refine wpl_value rfl rfl (run_move (eval_of ha.zero)) ?_
  have h1 := ha.put (i := k) (by omega) (.int .i32 r)
  have s1 := h1.size
  refine wpl_value rfl rfl (run_add (eval_of (put_same (by omega))) (eval_const' _ _)) ?_
  rw [hv]
  have h2 := h1.put (i := k + 1) (by omega) (.int .i32 v)
  have s2 := h2.size
  refine wpl_value rfl rfl (run_assign (eval_of (put_same (by omega)))) ?_
  exact wp_ret (h _ (h2.put (by decide) _) (put_same (by omega)))
theorem ret_sub {P : Program} {Q : Exit → Act → World → Prop} {a : Act} {w : World} {n : Nat} {r : Int} {id k : Nat} {c v : Int} {tt : TypeId} {p1 p2 p3 : String} {f1 f2 f3 : Array Edge} (ha : Rn a n r) (hk : 2 < k) (hn : k + 1 < n) (hv : IntKind.i32.wrap (r - c) = v)
    (h : ∀ a', Rn a' n r → a'.tmps[2]? = some (.int .i32 v) → Q .ret a' w) :
    ((Code.region id #[{ dst := some k, op := .move (.tmp 0), type := tt, pos := p1, after := f1, guard := none },
      { dst := some (k + 1), op := .binOp .sub tt (.tmp k) (.const (.int .i32 c)) tt, type := tt, pos := p2, after := f2, guard := none },
      { dst := some 2, op := .assign (.tmp (k + 1)), type := tt, pos := p3, after := f3, guard := none }] false).seq Code.ret).wp P Q a w := by
  have hs := ha.size
  refine wp_seq (wp_region_lit ?_)
  refine wpl_value rfl rfl (run_move (eval_of ha.zero)) ?_
  have h1 := ha.put (i := k) (by omega) (.int .i32 r)
  have s1 := h1.size
  refine wpl_value rfl rfl (run_sub (eval_of (put_same (by omega))) (eval_const' _ _)) ?_
  rw [hv]
  have h2 := h1.put (i := k + 1) (by omega) (.int .i32 v)
  have s2 := h2.size
  refine wpl_value rfl rfl (run_assign (eval_of (put_same (by omega)))) ?_
  exact wp_ret (h _ (h2.put (by decide) _) (put_same (by omega)))
/-- 'return r'. -/
theorem ret_self {P : Program} {Q : Exit → Act → World → Prop} {a : Act} {w : World} {n : Nat} {r : Int} {id k : Nat} {tt : TypeId} {p1 p3 : String} {f1 f3 : Array Edge} (ha : Rn a n r) (hk : 2 < k) (hn : k < n)
    (h : ∀ a', Rn a' n r → a'.tmps[2]? = some (.int .i32 r) → Q .ret a' w) :
    ((Code.region id #[{ dst := some k, op := .move (.tmp 0), type := tt, pos := p1, after := f1, guard := none },
      { dst := some 2, op := .assign (.tmp k), type := tt, pos := p3, after := f3, guard := none }] false).seq Code.ret).wp P Q a w := by
  have hs := ha.size
  refine wp_seq (wp_region_lit ?_)
  refine wpl_value rfl rfl (run_move (eval_of ha.zero)) ?_
  have h1 := ha.put (i := k) (by omega) (.int .i32 r)
  have s1 := h1.size
  refine wpl_value rfl rfl (run_assign (eval_of (put_same (by omega)))) ?_
  exact wp_ret (h _ (h1.put (by decide) _) (put_same (by omega)))

/-- A chain of rows. -/
def FChain (P : Program) (c : Code) (n : Nat) (r : Int) (L : List (Int × Int × Int × Int)) : Prop :=
  ∀ (Q : Exit → Act → World → Prop) (a : Act) (w : World), Rn a n r → (∀ q, L.find? (fitB r) = some q → ∀ a', Rn a' n r → a'.tmps[2]? = some (.int .i32 (r + q.2.2.2)) → Q .ret a' w) → (L.find? (fitB r) = none → ∀ a', Rn a' n r → Q .normal a' w) → c.wp P Q a w
theorem fchain_nil {P : Program} {n : Nat} {r : Int} : FChain P Code.skip n r [] := fun _ a _ ha _ h => wp_skip (h rfl a ha)
theorem fchain_cons {P : Program} {n d : Nat} {r : Int} {x y z : Code} {q : Int × Int × Int × Int} {L : List (Int × Int × Int × Int)} (hx : Chain P x n d r (fitB r q))
    (hz : fitB r q = true → ∀ (Q : Exit → Act → World → Prop) (a : Act) (w : World), Rn a n r → (∀ a', Rn a' n r → a'.tmps[2]? = some (.int .i32 (r + q.2.2.2)) → Q .ret a' w) → z.wp P Q a w) (hy : FChain P y n r L) :
    FChain P (x.seq (Code.cond (.tmp d) z y)) n r (q :: L) := by
  intro Q a w ha h1 h2
  refine case_more hx ha (fun hB a' h' => hz hB Q a' w h' (h1 q (by rw [List.find?_cons, hB]))) (fun hB a' h' => hy Q a' w h' (fun q' hq' => h1 q' (by rw [List.find?_cons, hB]; exact hq')) (fun hq' => h2 (by rw [List.find?_cons, hB]; exact hq')))
end Go.Proofs.YticonolnagcakaaDoor

namespace Go.Proofs.YticonolnagcakaaDoor
open Go.RowKit

set_option maxHeartbeats 1000000 in
theorem width_any (r : Int) (w : World) : Calls Tryd.prog 37 #[.int .i32 r] w fun e w' => e = .returned (.int .i64 (widthN r : Nat)) ∧ w = w' := by
  refine calls_rn Tryd.func37 rfl rfl (by decide) rfl (fun a ha => ?_)
  refine seq_set ha (by decide) (by decide) (fun a ha _ => ?_)
  refine wp_seq (wp_block (case_more (chain_lss (by decide) (by decide) (by decide)) ha (fun hB a ha => ?_) (fun hB a ha => case_more (B := inR zeroL r) (d := 6) ?_ ha (fun hZ a ha => ?_) (fun hZ a ha => case_more (B := inR wideL r) (d := 93) ?_ ha (fun hW a ha => ?_) (fun hW a ha => wp_skip ?_)))))
  · refine ret_set ha (by decide) (fun a' h' hv => ⟨rfl, rfl, _, hv, h'.defs, ?_, rfl⟩)
    have hr : r < 0 := by simpa using hB
    have h1 : inR zeroL r = false := clear_out (a := r) (b := -1) (by simp [clear', zeroL]) (Int.le_refl _) (by omega)
    have h2 : inR wideL r = false := clear_out (a := r) (b := -1) (by simp [clear', wideL]) (Int.le_refl _) (by omega)
    unfold widthN
    rw [h1, h2]
    rfl
  · unfold zeroL
    repeat (first | refine chain_or (chain_range (by decide) (by decide) (by decide)) ?_ | refine chain_or (chain_eq (by decide) (by decide) (by decide)) ?_)
    first | exact chain_range (by decide) (by decide) (by decide) | exact chain_eq (by decide) (by decide) (by decide)
  · refine ret_set ha (by decide) (fun a' h' hv => ⟨rfl, rfl, _, hv, h'.defs, ?_, rfl⟩)
    unfold widthN
    rw [hZ]
    rfl
  · unfold wideL
    repeat (first | refine chain_or (chain_range (by decide) (by decide) (by decide)) ?_ | refine chain_or (chain_eq (by decide) (by decide) (by decide)) ?_)
    first | exact chain_range (by decide) (by decide) (by decide) | exact chain_eq (by decide) (by decide) (by decide)
  · refine ret_set ha (by decide) (fun a' h' hv => ⟨rfl, rfl, _, hv, h'.defs, ?_, rfl⟩)
    unfold widthN
    rw [hZ, hW]
    rfl
  · show (Code.seq _ _).wp _ _ _ _
    refine ret_set ha (by decide) (fun a' h' hv => ⟨rfl, rfl, _, hv, h'.defs, ?_, rfl⟩)
    unfold widthN
    rw [hZ, hW]
    rfl

theorem blank_iff (r : Int) : blankB r = true ↔ (9 ≤ r ∧ r ≤ 13) ∨ r = 32 ∨ r = 133 ∨ r = 160 ∨ r = 5760 ∨ (8192 ≤ r ∧ r ≤ 8202) ∨ r = 8232 ∨ r = 8233 ∨ r = 8239 ∨ r = 8287 ∨ r = 12288 := by
  unfold blankB
  rw [inR_iff]
  simp only [blankL, List.mem_cons, List.not_mem_nil, or_false]
  constructor
  · rintro ⟨p, hp, h1, h2⟩
    rcases hp with rfl | rfl | rfl | rfl | rfl | rfl | rfl | rfl | rfl | rfl <;> simp only at h1 h2 <;> omega
  · intro h
    rcases h with h | h | h | h | h | h | h | h | h | h | h
    · exact ⟨(0x9, 0xd), by simp, h.1, h.2⟩
    · exact ⟨(0x20, 0x20), by simp, by omega, by omega⟩
    · exact ⟨(0x85, 0x85), by simp, by omega, by omega⟩
    · exact ⟨(0xa0, 0xa0), by simp, by omega, by omega⟩
    · exact ⟨(0x1680, 0x1680), by simp, by omega, by omega⟩
    · exact ⟨(0x2000, 0x200a), by simp, by omega, by omega⟩
    · exact ⟨(0x2028, 0x2029), by simp, by simp only; omega, by simp only; omega⟩
    · exact ⟨(0x2028, 0x2029), by simp, by simp only; omega, by simp only; omega⟩
    · exact ⟨(0x202f, 0x202f), by simp, by omega, by omega⟩
    · exact ⟨(0x205f, 0x205f), by simp, by omega, by omega⟩
    · exact ⟨(0x3000, 0x3000), by simp, by omega, by omega⟩
theorem blank_not {r : Int} (h : ¬ ((9 ≤ r ∧ r ≤ 13) ∨ r = 32 ∨ r = 133 ∨ r = 160 ∨ r = 5760 ∨ (8192 ≤ r ∧ r ≤ 8202) ∨ r = 8232 ∨ r = 8233 ∨ r = 8239 ∨ r = 8287 ∨ r = 12288)) : blankB r = false := by
  cases hb : blankB r with
  | false => rfl
  | true => exact absurd ((blank_iff r).1 hb) h

theorem ends_iff (r : Int) : endsB r = true ↔ r = 10 ∨ r = 13 ∨ r = 133 ∨ r = 8232 ∨ r = 8233 := by
  unfold endsB
  rw [inR_iff]
  simp only [List.mem_cons, List.not_mem_nil, or_false]
  constructor
  · rintro ⟨p, hp, h1, h2⟩
    rcases hp with rfl | rfl | rfl | rfl <;> simp only at h1 h2 <;> omega
  · intro h
    rcases h with h | h | h | h | h
    · exact ⟨(0xa, 0xa), by simp, by omega, by omega⟩
    · exact ⟨(0xd, 0xd), by simp, by omega, by omega⟩
    · exact ⟨(0x85, 0x85), by simp, by omega, by omega⟩
    · exact ⟨(0x2028, 0x2029), by simp, by simp only; omega, by simp only; omega⟩
    · exact ⟨(0x2028, 0x2029), by simp, by simp only; omega, by simp only; omega⟩
set_option maxHeartbeats 1000000 in
theorem ends_any (r : Int) (w : World) : Calls Tryd.prog 50 #[.int .i32 r] w fun e w' => e = .returned (.bool (endsB r)) ∧ w = w' := by
  go_enter Tryd.func50, Tryd.ntmps50
  go_wp2
  all_goals go_ret
  all_goals refine ⟨ret_bool ?_, rfl⟩
  all_goals (rw [Bool.eq_iff_iff, ends_iff]; simp only [beq_iff_eq, beq_eq_false_iff_ne, ne_eq, Bool.false_eq_true, true_iff, false_iff, eq_self] at *; omega)

theorem chain_fit {P : Program} {n : Nat} {r : Int} {d : Nat} {x : Code} {lo hi c : Int} (h : Chain P x n d r (inR [(lo, hi)] r)) : Chain P x n d r (fitB r (lo, hi, 1, c)) := by rw [fit_one]; exact h

def foldWith (L : List (Int × Int × Int × Int)) (r : Int) : Int := match L.find? (fitB r) with | some q => r + q.2.2.2 | none => r
theorem foldWith_some {L : List (Int × Int × Int × Int)} {r : Int} {q : Int × Int × Int × Int} (h : L.find? (fitB r) = some q) : foldWith L r = r + q.2.2.2 := by unfold foldWith; rw [h]
theorem foldWith_none {L : List (Int × Int × Int × Int)} {r : Int} (h : L.find? (fitB r) = none) : foldWith L r = r := by unfold foldWith; rw [h]
theorem fold_low (r : Int) (h : r < 1024) : foldZ r = foldWith (foldL.take 18) r := by
  show foldWith foldL r = _
  have h2 : (foldL.drop 18).find? (fitB r) = none := by
    rw [List.find?_eq_none]
    intro q hq
    have : ∀ q ∈ foldL.drop 18, 1024 ≤ q.1 := by decide +kernel
    have := this q hq
    simp [fitB]
    omega
  have h3 : (foldL.take 18 ++ foldL.drop 18).find? (fitB r) = (foldL.take 18).find? (fitB r) := by rw [List.find?_append, h2, Option.or_none]
  rw [List.take_append_drop] at h3
  unfold foldWith
  rw [h3]
theorem fold_high (r : Int) (h : 1024 ≤ r) : foldZ r = foldWith (foldL.drop 18) r := by
  show foldWith foldL r = _
  have h2 : (foldL.take 18).find? (fitB r) = none := by
    rw [List.find?_eq_none]
    intro q hq
    have : ∀ q ∈ foldL.take 18, q.2.1 < 1024 := by decide +kernel
    have := this q hq
    simp [fitB]
    omega
  have h3 : (foldL.take 18 ++ foldL.drop 18).find? (fitB r) = (foldL.drop 18).find? (fitB r) := by rw [List.find?_append, h2, Option.none_or]
  rw [List.take_append_drop] at h3
  unfold foldWith
  rw [h3]

end Go.Proofs.YticonolnagcakaaDoor

namespace Go.Proofs.YticonolnagcakaaDoor
open Go.RowKit

theorem rightR_imp {r : Int} {n : Nat} (h : rightR r n = false) : r = 65533 ∧ n = 1 := by
  unfold rightR at h
  simp at h
  exact h

/-! ### At -/
theorem atZ_in {l : Bs} {c : Int} (h : 0 ≤ c ∧ c ≤ (countN l : Int)) : atZ l c = (((atN l c.toNat : Nat) : Int), 0) := if_pos h
theorem atZ_out {l : Bs} {c : Int} (h : ¬ (0 ≤ c ∧ c ≤ (countN l : Int))) : atZ l c = (0, 6) := if_neg h

/-! ### Of -/
theorem ofZ_in {l : Bs} {c : Int} (h : 0 ≤ c ∧ c ≤ (l.length : Int)) : ofZ l c = (((ofT (tk l) c.toNat : Nat) : Int), 0) := if_pos h
theorem ofZ_out {l : Bs} {c : Int} (h : ¬ (0 ≤ c ∧ c ≤ (l.length : Int))) : ofZ l c = (0, 6) := if_neg h

/-- what is done when a character begins behind a place, all others having begun at it or ahead of it -/
theorem of_done {l : Bs} {done : List (Nat × Nat)} {p q : Nat} (hc : Cut l done p) (hq : q < p) (_hp : p ≤ l.length) (hall : ∀ d c, done = d ++ [c] → wsum d ≤ q) : ofT (tk l) q = done.length - 1 ∧ 1 ≤ done.length := by
  rcases List.eq_nil_or_concat done with rfl | ⟨d, c, rfl⟩
  · have := hc.2.2; simp [wsum] at this; omega
  · rw [List.concat_eq_append] at hc hall ⊢
    have h1 := hall d c rfl
    have h2 := hc.2.2
    rw [wsum_append, wsum_cons, wsum_nil] at h2
    rw [hc.2.1]
    simp only [List.append_assoc, List.singleton_append]
    rw [ofT_append _ _ _ h1, ofT, if_pos (by omega)]
    simp

/-! ### Begins -/
theorem begB_t {l : Bs} {q : Nat} (hq : q ≤ l.length) (h : Border l q) : begB l (q : Int) = true := by
  have := (bordT_iff l q hq).2 h
  simp [begB, this, hq]
theorem begB_f {l : Bs} {q : Nat} (hq : q ≤ l.length) (h : ¬ Border l q) : begB l (q : Int) = false := by
  have : bordT (tk l) q = false := Bool.eq_false_iff.2 fun e => h ((bordT_iff l q hq).1 e)
  simp [begB, this]
theorem begB_neg {l : Bs} {c : Int} (h : c < 0) : begB l c = false := by
  have : decide (0 ≤ c) = false := by simp; omega
  simp [begB, this]
theorem begB_beyond {l : Bs} {c : Int} (h : (l.length : Int) < c) : begB l c = false := by
  have : decide (c ≤ (l.length : Int)) = false := by simp; omega
  simp [begB, this]

end Go.Proofs.YticonolnagcakaaDoor

namespace Go.Proofs.YticonolnagcakaaDoor
open Go.RowKit

/-- Is a text at least one whole character, or not the beginning of one? -/
def fullN (n b0 b1 b2 : Nat) : Bool := decide (Lib.firstT b0 % 8 ≤ n) || (decide (1 < n) && (decide (b1 < Lib.accLo (Lib.firstT b0 / 16)) || decide (Lib.accHi (Lib.firstT b0 / 16) < b1))) || (decide (2 < n) && (decide (b2 < 128) || decide (191 < b2)))
def fullB (l : Bs) : Bool := fullN l.length (by' l 0) (by' l 1) (by' l 2)

theorem tab_first {w : World} (hT : Tabs w) (b : Nat) (hb : b < 256) : w.cell? ⟨1, b, none⟩ = some (.int .u8 (Lib.firstT b)) := hT.1 b hb
theorem tab_acc {w : World} (hT : Tabs w) (i : Nat) (hi : i < 16) : w.cell? ⟨2, 2 * i, none⟩ = some (.int .u8 (Lib.accLo i)) ∧ w.cell? ⟨2, 2 * i + 1, none⟩ = some (.int .u8 (Lib.accHi i)) := hT.2 i hi

end Go.Proofs.YticonolnagcakaaDoor

namespace Go.Proofs.YticonolnagcakaaDoor
open Go.RowKit

theorem firstT_fol {b : Nat} (h : Fol b) : Lib.firstT b = 241 := by
  obtain ⟨h1, h2⟩ := h
  unfold Lib.firstT
  rw [if_neg (by omega), if_pos (by omega)]

theorem full_fol {l : Bs} (hl : 1 ≤ l.length) (h : Fol (by' l 0)) : fullB l = true := by
  unfold fullB fullN
  rw [firstT_fol h]
  simp only [Bool.or_eq_true, decide_eq_true_eq]
  left; left; omega

/-- a proper beginning -/
def properB (l : Bs) : Bool := !fullB l && decide (1 ≤ l.length) && decide (l.length ≤ 3)

theorem acc_ge (x : Nat) : x = 2 ∨ x = 19 ∨ x = 3 ∨ x = 35 ∨ x = 52 ∨ x = 4 ∨ x = 68 → 128 ≤ Lib.accLo (x / 16) ∧ Lib.accHi (x / 16) ≤ 191 := by
  rintro (rfl | rfl | rfl | rfl | rfl | rfl | rfl) <;> decide

/-- What is not full: its lead byte's class, and that the others follow. -/
theorem not_full {l : Bs} (hl : 1 ≤ l.length) (h : fullB l = false) : ¬ Fol (by' l 0) ∧ 194 ≤ by' l 0 ∧ by' l 0 < 245 ∧ (∀ i, 1 ≤ i → i < l.length → i ≤ 2 → Fol (by' l i)) ∧ l.length ≤ 3 := by
  have hnf : ¬ Fol (by' l 0) := fun hf => by rw [full_fol hl hf] at h; cases h
  unfold fullB fullN at h
  simp only [Bool.or_eq_false_iff, Bool.and_eq_false_iff, decide_eq_false_iff_not] at h
  obtain ⟨⟨h1, h2⟩, h3⟩ := h
  have hb := by_lt l 0
  have hx : Lib.firstT (by' l 0) = 2 ∨ Lib.firstT (by' l 0) = 19 ∨ Lib.firstT (by' l 0) = 3 ∨ Lib.firstT (by' l 0) = 35 ∨ Lib.firstT (by' l 0) = 52 ∨ Lib.firstT (by' l 0) = 4 ∨ Lib.firstT (by' l 0) = 68 := by
    rcases Lib.firstT_cases (by' l 0) with e | e | e
    · rw [e] at h1; omega
    · rw [e] at h1; omega
    · exact e
  have ha := acc_ge _ hx
  have hlow := Lib.firstT_low (b := by' l 0) (by omega)
  refine ⟨hnf, by omega, by omega, fun i hi1 hi2 hi3 => ?_, by omega⟩
  obtain rfl | rfl : i = 1 ∨ i = 2 := by omega
  · exact ⟨by omega, by omega⟩
  · exact ⟨by omega, by omega⟩

theorem proper_of {l : Bs} (hl : 1 ≤ l.length) (h : fullB l = false) : properB l = true := by
  have := (not_full hl h).2.2.2.2
  simp [properB, h, hl, this]
theorem proper_full {l : Bs} (h : properB l = true) : fullB l = false ∧ 1 ≤ l.length ∧ l.length ≤ 3 := by
  simp [properB] at h
  exact ⟨h.1.1, h.1.2, h.2⟩
theorem not_proper {l : Bs} (h : fullB l = true) : properB l = false := by simp [properB, h]

/-- How many of the last bytes are a proper beginning. -/
def tailOf (l : Bs) (k : Nat) : Bs := l.drop (l.length - k)
def pendN (l : Bs) : Nat :=
  if 1 ≤ l.length ∧ properB (tailOf l 1) = true then 1 else if 2 ≤ l.length ∧ properB (tailOf l 2) = true then 2 else if 3 ≤ l.length ∧ properB (tailOf l 3) = true then 3 else 0

theorem tail_len {l : Bs} {k : Nat} (h : k ≤ l.length) : (tailOf l k).length = k := by unfold tailOf; simp; omega
theorem tail_by {l : Bs} {k : Nat} (h : k ≤ l.length) (i : Nat) (hi : i < k) : by' (tailOf l k) i = by' l (l.length - (k - i)) := by
  unfold tailOf
  rw [by_drop, show l.length - k + i = l.length - (k - i) from by omega]

/-- a tail that begins with a byte that follows is no proper beginning; nor one with another byte that does not -/
theorem tail_not {l : Bs} {k : Nat} (h1 : 1 ≤ k) (h : k ≤ l.length) (hf : Fol (by' l (l.length - k))) : properB (tailOf l k) = false := by
  refine not_proper (full_fol (by rw [tail_len h]; exact h1) ?_)
  rw [tail_by h 0 (by omega), Nat.sub_zero]
  exact hf
theorem tail_inner {l : Bs} {k j : Nat} (h : k ≤ l.length) (hk : k ≤ 3) (hj : 1 ≤ j) (hjk : j < k) (hf : ¬ Fol (by' l (l.length - j))) : properB (tailOf l k) = false := by
  refine Bool.eq_false_iff.2 fun hp => hf ?_
  have h1 := proper_full hp
  have h2 := (not_full h1.2.1 h1.1).2.2.2.1 (k - j) (by omega) (by rw [tail_len h]; omega) (by omega)
  rw [tail_by h _ (by omega), show k - (k - j) = j from by omega] at h2
  exact h2

theorem pend_back {l : Bs} {k : Nat} (hk : 1 ≤ k) (hk3 : k ≤ 3) (hkl : k ≤ l.length) (hf : ∀ j, 1 ≤ j → j < k → Fol (by' l (l.length - j))) (hn : ¬ Fol (by' l (l.length - k))) :
    pendN l = if fullB (tailOf l k) = true then 0 else k := by
  have hlow : ∀ j, 1 ≤ j → j < k → properB (tailOf l j) = false := fun j h1 h2 => tail_not h1 (by omega) (hf j h1 h2)
  have hhigh : ∀ j, k < j → j ≤ 3 → j ≤ l.length → properB (tailOf l j) = false := fun j h1 h2 h3 => tail_inner h3 h2 hk h1 hn
  have hself : properB (tailOf l k) = !fullB (tailOf l k) := by
    cases hfb : fullB (tailOf l k)
    · exact proper_of (by rw [tail_len hkl]; exact hk) hfb
    · exact not_proper hfb
  unfold pendN
  obtain rfl | rfl | rfl : k = 1 ∨ k = 2 ∨ k = 3 := by omega
  · rw [hself]
    cases hfb : fullB (tailOf l 1)
    · simp [hkl]
    · simp only [Bool.not_true, Bool.false_eq_true, and_false, if_false, if_true]
      by_cases h2 : 2 ≤ l.length
      · rw [hhigh 2 (by omega) (by omega) h2]
        by_cases h3 : 3 ≤ l.length
        · rw [hhigh 3 (by omega) (by omega) h3]; simp
        · simp [h3]
      · simp [h2, show ¬ 3 ≤ l.length by omega]
  · rw [hlow 1 (by omega) (by omega), hself]
    cases hfb : fullB (tailOf l 2)
    · simp [hkl]
    · simp only [Bool.not_true, Bool.false_eq_true, and_false, if_false, if_true]
      by_cases h3 : 3 ≤ l.length
      · rw [hhigh 3 (by omega) (by omega) h3]; simp
      · simp [h3]
  · rw [hlow 1 (by omega) (by omega), hlow 2 (by omega) (by omega), hself]
    cases hfb : fullB (tailOf l 3)
    · simp [hkl]
    · simp

theorem pend_far {l : Bs} (hf : ∀ j, 1 ≤ j → j ≤ 3 → j ≤ l.length → Fol (by' l (l.length - j))) : pendN l = 0 := by
  unfold pendN
  by_cases h1 : 1 ≤ l.length
  · rw [tail_not (k := 1) (by omega) h1 (hf 1 (by omega) (by omega) h1)]
    by_cases h2 : 2 ≤ l.length
    · rw [tail_not (k := 2) (by omega) h2 (hf 2 (by omega) (by omega) h2)]
      by_cases h3 : 3 ≤ l.length
      · rw [tail_not (k := 3) (by omega) h3 (hf 3 (by omega) (by omega) h3)]; simp
      · simp [h3]
    · simp [h2, show ¬ 3 ≤ l.length by omega]
  · simp [h1, show ¬ 2 ≤ l.length by omega, show ¬ 3 ≤ l.length by omega]

theorem pend_le (l : Bs) : pendN l ≤ 3 ∧ pendN l ≤ l.length := by
  unfold pendN
  split
  · omega
  · split
    · omega
    · split <;> omega

end Go.Proofs.YticonolnagcakaaDoor

namespace Go.Proofs.YticonolnagcakaaDoor
open Go.RowKit

/-- may a rune be? -/
def mayB (r : Int) : Bool := decide (0 ≤ r ∧ r ≤ 1114111 ∧ (r < 55296 ∨ 57343 < r))
theorem mayB_t {r : Int} (h : 0 ≤ r ∧ r ≤ 1114111 ∧ (r < 55296 ∨ 57343 < r)) : mayB r = true := decide_eq_true h
theorem mayB_f {r : Int} (h : ¬ (0 ≤ r ∧ r ≤ 1114111 ∧ (r < 55296 ∨ 57343 < r))) : mayB r = false := decide_eq_false h

/-- The right sequence of a rune that may be, as the cells of a new block. -/
def seqZ (r : Int) : List Int :=
  if r < 128 then [r] else if r < 2048 then [192 + r / 64, 128 + r % 64] else if r < 65536 then [224 + r / 4096, 128 + r / 64 % 64, 128 + r % 64]
  else [240 + r / 262144, 128 + r / 4096 % 64, 128 + r / 64 % 64, 128 + r % 64]

theorem seqZ_one {r : Int} (h : r < 128) : seqZ r = [r] := by simp [seqZ, h]
theorem seqZ_two {r : Int} (h0 : ¬ r < 128) (h : r < 2048) : seqZ r = [192 + r / 64, 128 + r % 64] := by simp [seqZ, h0, h]
theorem seqZ_three {r : Int} (h0 : ¬ r < 2048) (h : r < 65536) : seqZ r = [224 + r / 4096, 128 + r / 64 % 64, 128 + r % 64] := by
  have : ¬ r < 128 := by omega
  simp [seqZ, h0, h, this]
theorem seqZ_four {r : Int} (h0 : ¬ r < 65536) : seqZ r = [240 + r / 262144, 128 + r / 4096 % 64, 128 + r / 64 % 64, 128 + r % 64] := by
  have a : ¬ r < 128 := by omega
  have b : ¬ r < 2048 := by omega
  simp [seqZ, h0, a, b]

end Go.Proofs.YticonolnagcakaaDoor

namespace Go.Proofs.YticonolnagcakaaDoor
open Go.RowKit

/-- what w bytes say -/
def numZ (l : Bs) (w : Nat) : Int :=
  if w = 1 then (by' l 0 : Int) else if w = 2 then ((by' l 0 : Int) - 192) * 64 + (by' l 1 : Int) % 64
  else if w = 3 then (((by' l 0 : Int) - 224) * 64 + (by' l 1 : Int) % 64) * 64 + (by' l 2 : Int) % 64
  else ((((by' l 0 : Int) - 240) * 64 + (by' l 1 : Int) % 64) * 64 + (by' l 2 : Int) % 64) * 64 + (by' l 3 : Int) % 64

theorem numZ_1 (l : Bs) : numZ l 1 = (by' l 0 : Int) := rfl
theorem numZ_2 (l : Bs) : numZ l 2 = ((by' l 0 : Int) - 192) * 64 + (by' l 1 : Int) % 64 := rfl
theorem numZ_3 (l : Bs) : numZ l 3 = (((by' l 0 : Int) - 224) * 64 + (by' l 1 : Int) % 64) * 64 + (by' l 2 : Int) % 64 := rfl
theorem numZ_4 (l : Bs) : numZ l 4 = ((((by' l 0 : Int) - 240) * 64 + (by' l 1 : Int) % 64) * 64 + (by' l 2 : Int) % 64) * 64 + (by' l 3 : Int) % 64 := rfl

/-- does a text begin with these bytes? -/
def begZ (l : Bs) (zs : List Int) : Bool := decide (zs.length ≤ l.length ∧ ∀ i, i < zs.length → (by' l i : Int) = zs[i]?.getD 0)

end Go.Proofs.YticonolnagcakaaDoor

namespace Go.Proofs.YticonolnagcakaaDoor
open Go.RowKit

/-- do the first w bytes stand for a rune that may be, written as it is written? -/
def hit (l : Bs) (w : Nat) : Bool := mayB (numZ l w) && (begZ l (seqZ (numZ l w)) && decide ((seqZ (numZ l w)).length = w))

theorem begZ_1 (l : Bs) (a : Int) : begZ l [a] = true ↔ 1 ≤ l.length ∧ (by' l 0 : Int) = a := by
  simp only [begZ, decide_eq_true_eq, List.length_cons, List.length_nil]
  constructor
  · intro h; exact ⟨h.1, by simpa using h.2 0 (by omega)⟩
  · intro h; exact ⟨h.1, fun i hi => by obtain rfl : i = 0 := by omega
                                        simpa using h.2⟩
theorem begZ_2 (l : Bs) (a b : Int) : begZ l [a, b] = true ↔ 2 ≤ l.length ∧ (by' l 0 : Int) = a ∧ (by' l 1 : Int) = b := by
  simp only [begZ, decide_eq_true_eq, List.length_cons, List.length_nil]
  constructor
  · intro h; exact ⟨h.1, by simpa using h.2 0 (by omega), by simpa using h.2 1 (by omega)⟩
  · intro h
    refine ⟨h.1, fun i hi => ?_⟩
    obtain rfl | rfl : i = 0 ∨ i = 1 := by omega
    · simpa using h.2.1
    · simpa using h.2.2
theorem begZ_3 (l : Bs) (a b c : Int) : begZ l [a, b, c] = true ↔ 3 ≤ l.length ∧ (by' l 0 : Int) = a ∧ (by' l 1 : Int) = b ∧ (by' l 2 : Int) = c := by
  simp only [begZ, decide_eq_true_eq, List.length_cons, List.length_nil]
  constructor
  · intro h; exact ⟨h.1, by simpa using h.2 0 (by omega), by simpa using h.2 1 (by omega), by simpa using h.2 2 (by omega)⟩
  · intro h
    refine ⟨h.1, fun i hi => ?_⟩
    obtain rfl | rfl | rfl : i = 0 ∨ i = 1 ∨ i = 2 := by omega
    · simpa using h.2.1
    · simpa using h.2.2.1
    · simpa using h.2.2.2
theorem begZ_4 (l : Bs) (a b c d : Int) : begZ l [a, b, c, d] = true ↔ 4 ≤ l.length ∧ (by' l 0 : Int) = a ∧ (by' l 1 : Int) = b ∧ (by' l 2 : Int) = c ∧ (by' l 3 : Int) = d := by
  simp only [begZ, decide_eq_true_eq, List.length_cons, List.length_nil]
  constructor
  · intro h; exact ⟨h.1, by simpa using h.2 0 (by omega), by simpa using h.2 1 (by omega), by simpa using h.2 2 (by omega), by simpa using h.2 3 (by omega)⟩
  · intro h
    refine ⟨h.1, fun i hi => ?_⟩
    obtain rfl | rfl | rfl | rfl : i = 0 ∨ i = 1 ∨ i = 2 ∨ i = 3 := by omega
    · simpa using h.2.1
    · simpa using h.2.2.1
    · simpa using h.2.2.2.1
    · simpa using h.2.2.2.2

theorem seqZ_class (r : Int) : (r < 128 ∧ seqZ r = [r]) ∨ (128 ≤ r ∧ r < 2048 ∧ seqZ r = [192 + r / 64, 128 + r % 64]) ∨ (2048 ≤ r ∧ r < 65536 ∧ seqZ r = [224 + r / 4096, 128 + r / 64 % 64, 128 + r % 64]) ∨
    (65536 ≤ r ∧ seqZ r = [240 + r / 262144, 128 + r / 4096 % 64, 128 + r / 64 % 64, 128 + r % 64]) := by
  by_cases h1 : r < 128
  · exact .inl ⟨h1, seqZ_one h1⟩
  · by_cases h2 : r < 2048
    · exact .inr (.inl ⟨by omega, h2, seqZ_two h1 h2⟩)
    · by_cases h3 : r < 65536
      · exact .inr (.inr (.inl ⟨by omega, h3, seqZ_three h2 h3⟩))
      · exact .inr (.inr (.inr ⟨by omega, seqZ_four h3⟩))

theorem hit_iff (l : Bs) (w : Nat) : hit l w = true ↔ mayB (numZ l w) = true ∧ begZ l (seqZ (numZ l w)) = true ∧ (seqZ (numZ l w)).length = w := by
  unfold hit
  rw [Bool.and_eq_true, Bool.and_eq_true, decide_eq_true_eq]

theorem hit_1 (l : Bs) (hl : 1 ≤ l.length) : hit l 1 = true ↔ by' l 0 < 128 := by
  have hb := by_lt l 0
  rw [hit_iff, numZ_1]
  obtain ⟨r, hr⟩ : ∃ r : Int, r = (by' l 0 : Int) := ⟨_, rfl⟩
  rw [← hr]
  rcases seqZ_class r with ⟨a, e⟩ | ⟨a, b, e⟩ | ⟨a, b, e⟩ | ⟨a, e⟩ <;> rw [e]
  · rw [begZ_1]
    refine ⟨fun h => by omega, fun h => ⟨mayB_t (by omega), ⟨hl, hr.symm⟩, rfl⟩⟩
  · exact ⟨fun h => absurd h.2.2 (by simp), fun h => by omega⟩
  · exact ⟨fun h => absurd h.2.2 (by simp), fun h => by omega⟩
  · exact ⟨fun h => absurd h.2.2 (by simp), fun h => by omega⟩

theorem hit_2 (l : Bs) (hl : 2 ≤ l.length) : hit l 2 = true ↔ Ok2 l.length (by' l 0) (by' l 1) := by
  have hb := by_lt l 0
  have hb1 := by_lt l 1
  rw [hit_iff, numZ_2]
  obtain ⟨r, hr⟩ : ∃ r : Int, r = ((by' l 0 : Int) - 192) * 64 + (by' l 1 : Int) % 64 := ⟨_, rfl⟩
  rw [← hr]
  unfold Ok2
  rcases seqZ_class r with ⟨a, e⟩ | ⟨a, b, e⟩ | ⟨a, b, e⟩ | ⟨a, e⟩ <;> rw [e]
  · exact ⟨fun h => absurd h.2.2 (by simp), fun h => by omega⟩
  · rw [begZ_2]
    refine ⟨fun ⟨_, h, _⟩ => by omega, fun h => ⟨mayB_t (by omega), by omega, rfl⟩⟩
  · exact ⟨fun h => absurd h.2.2 (by simp), fun h => by omega⟩
  · exact ⟨fun h => absurd h.2.2 (by simp), fun h => by omega⟩

theorem hit_3 (l : Bs) (hl : 3 ≤ l.length) : hit l 3 = true ↔ Ok3 l.length (by' l 0) (by' l 1) (by' l 2) := by
  have hb := by_lt l 0
  have hb1 := by_lt l 1
  have hb2 := by_lt l 2
  rw [hit_iff, numZ_3]
  obtain ⟨r, hr⟩ : ∃ r : Int, r = (((by' l 0 : Int) - 224) * 64 + (by' l 1 : Int) % 64) * 64 + (by' l 2 : Int) % 64 := ⟨_, rfl⟩
  rw [← hr]
  unfold Ok3 n3
  rcases seqZ_class r with ⟨a, e⟩ | ⟨a, b, e⟩ | ⟨a, b, e⟩ | ⟨a, e⟩ <;> rw [e]
  · exact ⟨fun h => absurd h.2.2 (by simp), fun h => by omega⟩
  · exact ⟨fun h => absurd h.2.2 (by simp), fun h => by omega⟩
  · rw [begZ_3]
    refine ⟨fun ⟨hm, h, _⟩ => ?_, fun h => ⟨mayB_t (by omega), by omega, rfl⟩⟩
    have hm := of_decide_eq_true hm
    omega
  · exact ⟨fun h => absurd h.2.2 (by simp), fun h => by omega⟩

theorem hit_4 (l : Bs) (hl : 4 ≤ l.length) : hit l 4 = true ↔ Ok4 l.length (by' l 0) (by' l 1) (by' l 2) (by' l 3) := by
  have hb := by_lt l 0
  have hb1 := by_lt l 1
  have hb2 := by_lt l 2
  have hb3 := by_lt l 3
  rw [hit_iff, numZ_4]
  obtain ⟨r, hr⟩ : ∃ r : Int, r = ((((by' l 0 : Int) - 240) * 64 + (by' l 1 : Int) % 64) * 64 + (by' l 2 : Int) % 64) * 64 + (by' l 3 : Int) % 64 := ⟨_, rfl⟩
  rw [← hr]
  unfold Ok4 n4
  rcases seqZ_class r with ⟨a, e⟩ | ⟨a, b, e⟩ | ⟨a, b, e⟩ | ⟨a, e⟩ <;> rw [e]
  · exact ⟨fun h => absurd h.2.2 (by simp), fun h => by omega⟩
  · exact ⟨fun h => absurd h.2.2 (by simp), fun h => by omega⟩
  · exact ⟨fun h => absurd h.2.2 (by simp), fun h => by omega⟩
  · rw [begZ_4]
    refine ⟨fun ⟨hm, h, _⟩ => ?_, fun h => ⟨mayB_t (by omega), by omega, rfl⟩⟩
    have hm := of_decide_eq_true hm
    omega

/-- The first character by the numbers that its bytes say: just where it is right, and of its width. -/
theorem hit_dec (l : Bs) (w : Nat) (h1 : 1 ≤ w) (h4 : w ≤ 4) (hw : w ≤ l.length) :
    hit l w = (rightR (Lib.decodeL l).1 (Lib.decodeL l).2 && decide (w = (Lib.decodeL l).2)) ∧ (hit l w = true → numZ l w = ((Lib.decodeL l).1 : Int)) := by
  have key : ∀ (P : Prop), (hit l w = true ↔ P) → ∀ b : Bool, (b = true ↔ P) → hit l w = b := by
    intro P h b hb
    cases hh : hit l w <;> cases b <;> simp_all
  have hb := by_lt l 0
  have hr : ∀ (r n : Nat), 2 ≤ n → rightR (r : Int) n = true := by
    intro r n hn
    unfold rightR
    have : (n == 1) = false := by simp; omega
    simp [this]
  have h128 : ∀ r : Nat, r < 128 → rightR (r : Int) 1 = true := fun r h => rightR_ne (by omega) 1
  have hbad : rightR ((65533 : Nat) : Int) 1 = false := rfl
  rcases dec_cases l with ⟨a, h⟩ | ⟨a, h⟩ | ⟨a, h⟩ | ⟨a, h⟩ | ⟨a0, a2, a3, a4, h⟩ <;> rw [h] <;> simp only
  · rw [h128 _ a]
    obtain rfl | rfl | rfl | rfl : w = 1 ∨ w = 2 ∨ w = 3 ∨ w = 4 := by omega
    · exact ⟨key _ (hit_1 l hw) _ (by simp [a]), fun _ => rfl⟩
    · have := Bool.eq_false_iff.2 fun e => absurd ((hit_2 l hw).1 e).1 (by omega)
      rw [this]; exact ⟨rfl, fun h => by cases h⟩
    · have := Bool.eq_false_iff.2 fun e => absurd ((hit_3 l hw).1 e).1 (by omega)
      rw [this]; exact ⟨rfl, fun h => by cases h⟩
    · have := Bool.eq_false_iff.2 fun e => absurd ((hit_4 l hw).1 e).1 (by omega)
      rw [this]; exact ⟨rfl, fun h => by cases h⟩
  · rw [hr _ 2 (by omega)]
    have ha := a.1
    have ha2 := a.2.1
    obtain rfl | rfl | rfl | rfl : w = 1 ∨ w = 2 ∨ w = 3 ∨ w = 4 := by omega
    · have := Bool.eq_false_iff.2 fun e => absurd ((hit_1 l hw).1 e) (by omega)
      rw [this]; exact ⟨rfl, fun h => by cases h⟩
    · refine ⟨key _ (hit_2 l hw) _ (by simp [a]), fun _ => ?_⟩
      obtain ⟨_, _, _, _, _⟩ := a
      rw [numZ_2]; unfold n2; omega
    · have := Bool.eq_false_iff.2 fun e => absurd ((hit_3 l hw).1 e).1 (by omega)
      rw [this]; exact ⟨rfl, fun h => by cases h⟩
    · have := Bool.eq_false_iff.2 fun e => absurd ((hit_4 l hw).1 e).1 (by omega)
      rw [this]; exact ⟨rfl, fun h => by cases h⟩
  · rw [hr _ 3 (by omega)]
    have ha := a.1
    have ha2 := a.2.1
    obtain rfl | rfl | rfl | rfl : w = 1 ∨ w = 2 ∨ w = 3 ∨ w = 4 := by omega
    · have := Bool.eq_false_iff.2 fun e => absurd ((hit_1 l hw).1 e) (by omega)
      rw [this]; exact ⟨rfl, fun h => by cases h⟩
    · have := Bool.eq_false_iff.2 fun e => absurd ((hit_2 l hw).1 e).2.1 (by omega)
      rw [this]; exact ⟨rfl, fun h => by cases h⟩
    · refine ⟨key _ (hit_3 l hw) _ (by simp [a]), fun _ => ?_⟩
      obtain ⟨_, _, _, _, _, _, _, _, _⟩ := a
      rw [numZ_3]; unfold n3 at *; omega
    · have := Bool.eq_false_iff.2 fun e => absurd ((hit_4 l hw).1 e).1 (by omega)
      rw [this]; exact ⟨rfl, fun h => by cases h⟩
  · rw [hr _ 4 (by omega)]
    have ha := a.1
    have ha2 := a.2.1
    obtain rfl | rfl | rfl | rfl : w = 1 ∨ w = 2 ∨ w = 3 ∨ w = 4 := by omega
    · have := Bool.eq_false_iff.2 fun e => absurd ((hit_1 l hw).1 e) (by omega)
      rw [this]; exact ⟨rfl, fun h => by cases h⟩
    · have := Bool.eq_false_iff.2 fun e => absurd ((hit_2 l hw).1 e).2.1 (by omega)
      rw [this]; exact ⟨rfl, fun h => by cases h⟩
    · have := Bool.eq_false_iff.2 fun e => absurd ((hit_3 l hw).1 e).2.1 (by omega)
      rw [this]; exact ⟨rfl, fun h => by cases h⟩
    · refine ⟨key _ (hit_4 l hw) _ (by simp [a]), fun _ => ?_⟩
      obtain ⟨_, _, _, _, _, _, _, _, _, _, _⟩ := a
      rw [numZ_4]; unfold n4 at *; omega
  · rw [hbad]
    have : hit l w = false := by
      refine Bool.eq_false_iff.2 fun e => ?_
      obtain rfl | rfl | rfl | rfl : w = 1 ∨ w = 2 ∨ w = 3 ∨ w = 4 := by omega
      · have := (hit_1 l hw).1 e; omega
      · exact a2 ((hit_2 l hw).1 e)
      · exact a3 ((hit_3 l hw).1 e)
      · exact a4 ((hit_4 l hw).1 e)
    rw [this]; exact ⟨rfl, fun h => by cases h⟩

theorem seqZ_le4 (r : Int) : (seqZ r).length ≤ 4 := by
  rcases seqZ_class r with ⟨_, e⟩ | ⟨_, _, e⟩ | ⟨_, _, e⟩ | ⟨_, e⟩ <;> rw [e] <;> simp

end Go.Proofs.YticonolnagcakaaDoor

namespace Go.Proofs.YticonolnagcakaaDoor
open Go.RowKit

/-- is a text one right sequence? -/
def seqB (l : Bs) : Bool := !l.isEmpty && (rightR (Lib.decodeL l).1 (Lib.decodeL l).2 && decide ((Lib.decodeL l).2 = l.length))
def nexts : List Nat := [128, 143, 144, 159, 160, 191]
def closedB (l : Bs) : Nat → Bool
  | 0 => seqB l
  | m + 1 => seqB l || nexts.any fun b => closedB (l ++ [UInt8.ofNat b]) m

theorem conv_new {P : Program} (src e dst : TypeId) (hs : P.underlying src = some (.slice e)) (he : P.underlying e = some (.int .u8)) (hd : P.underlying dst = some .string) (x : Int) (W : World) :
    (convert src dst (.slice (some ⟨W.heap.size, 0, none⟩) 1 1)).run P (W.alloc (.cells #[.int .u8 x] e)) = .ok (.string (strOfNums [x])) (W.alloc (.cells #[.int .u8 x] e)) := by
  refine run_convert_bytes_arg _ src e hs he _ 0 1 1 [x] rfl (fun i hi => ?_) dst hd
  obtain rfl : i = 0 := by omega
  simp

theorem bs_snoc (s : ByteArray) (b : Nat) (_h : b < 256) : bs (s ++ strOfNums [(b : Int)]) = bs s ++ [UInt8.ofNat b] := by
  unfold bs
  rw [ByteArray.data_append, Array.toList_append, strOfNums_data]
  simp

theorem any_cons_false {α : Type} {p : α → Bool} {l : List α} : l.any p = false ↔ ∀ x ∈ l, p x = false := by
  simp

def nextsObj : Obj := .cells #[.int .u8 128, .int .u8 143, .int .u8 144, .int .u8 159, .int .u8 160, .int .u8 191] 5
theorem nexts_cell (w : World) (j : Nat) (h : j < 6) : (w.alloc nextsObj).cell? ⟨w.heap.size, j, none⟩ = some (.int .u8 ((nexts[j]?.getD 0 : Nat) : Int)) := by
  unfold nextsObj
  match j, h with
  | 0, _ => simp [nexts]
  | 1, _ => simp [nexts]
  | 2, _ => simp [nexts]
  | 3, _ => simp [nexts]
  | 4, _ => simp [nexts]
  | 5, _ => simp [nexts]
theorem nexts_lt (j : Nat) (h : j < 6) : nexts[j]?.getD 0 < 256 ∧ nexts[j]?.getD 0 ∈ nexts := by
  match j, h with
  | 0, _ => simp [nexts]
  | 1, _ => simp [nexts]
  | 2, _ => simp [nexts]
  | 3, _ => simp [nexts]
  | 4, _ => simp [nexts]
  | 5, _ => simp [nexts]
theorem nexts_any {p : Nat → Bool} (h : ∀ j, j < 6 → p (nexts[j]?.getD 0) = false) : nexts.any p = false := by
  rw [any_cons_false]
  intro x hx
  obtain ⟨j, hj, rfl⟩ := List.mem_iff_getElem.1 hx
  have := h j hj
  rwa [List.getElem?_eq_getElem hj] at this

end Go.Proofs.YticonolnagcakaaDoor

namespace Go.Proofs.YticonolnagcakaaDoor
open Go.RowKit

theorem seqB_iff (l : Bs) : seqB l = true ↔ l ≠ [] ∧ rightR (Lib.decodeL l).1 (Lib.decodeL l).2 = true ∧ (Lib.decodeL l).2 = l.length := by
  unfold seqB
  rw [Bool.and_eq_true, Bool.and_eq_true, decide_eq_true_eq]
  cases l <;> simp

theorem rightR_two (r n : Nat) (hn : 2 ≤ n) : rightR (r : Int) n = true := by
  unfold rightR
  have : (n == 1) = false := by simp; omega
  simp [this]

theorem dec_ok2 {l : Bs} (h : Ok2 l.length (by' l 0) (by' l 1)) : Lib.decodeL l = (n2 (by' l 0) (by' l 1), 2) := by
  rcases dec_cases l with ⟨a, _⟩ | ⟨a, e⟩ | ⟨a, _⟩ | ⟨a, _⟩ | ⟨_, a, _, _, _⟩
  · have := h.1; omega
  · exact e
  · have := h.2.1; have := a.1; omega
  · have := h.2.1; have := a.1; omega
  · exact absurd h a
theorem dec_ok3 {l : Bs} (h : Ok3 l.length (by' l 0) (by' l 1) (by' l 2)) : Lib.decodeL l = (n3 (by' l 0) (by' l 1) (by' l 2), 3) := by
  rcases dec_cases l with ⟨a, _⟩ | ⟨a, _⟩ | ⟨a, e⟩ | ⟨a, _⟩ | ⟨_, _, a, _, _⟩
  · have := h.1; omega
  · have := h.1; have := a.2.1; omega
  · exact e
  · have := h.2.1; have := a.1; omega
  · exact absurd h a
theorem dec_ok4 {l : Bs} (h : Ok4 l.length (by' l 0) (by' l 1) (by' l 2) (by' l 3)) : Lib.decodeL l = (n4 (by' l 0) (by' l 1) (by' l 2) (by' l 3), 4) := by
  rcases dec_cases l with ⟨a, _⟩ | ⟨a, _⟩ | ⟨a, _⟩ | ⟨a, e⟩ | ⟨_, _, _, a, _⟩
  · have := h.1; omega
  · have := h.1; have := a.2.1; omega
  · have := h.1; have := a.2.1; omega
  · exact e
  · exact absurd h a

theorem closedB_ext : ∀ (m : Nat) (l e : Bs), (∀ b ∈ e, b.toNat ∈ nexts) → e.length ≤ m → seqB (l ++ e) = true → closedB l m = true
  | 0, l, e, _, h, hs => by
    have : e = [] := List.length_eq_zero_iff.1 (by omega)
    subst this
    rw [List.append_nil] at hs
    exact hs
  | m + 1, l, [], _, _, hs => by
    rw [List.append_nil] at hs
    unfold closedB
    rw [hs]; rfl
  | m + 1, l, b :: e, hb, h, hs => by
    unfold closedB
    rw [Bool.or_eq_true]
    right
    rw [List.any_eq_true]
    refine ⟨b.toNat, hb b (by simp), ?_⟩
    have e1 : UInt8.ofNat b.toNat = b := by simp
    rw [e1]
    exact closedB_ext m (l ++ [b]) e (fun x hx => hb x (by simp [hx])) (by simpa using h) (by simpa using hs)

theorem closedB_sound : ∀ (m : Nat) (l : Bs), closedB l m = true → ∃ e, seqB (l ++ e) = true
  | 0, l, h => ⟨[], by rw [List.append_nil]; exact h⟩
  | m + 1, l, h => by
    unfold closedB at h
    rw [Bool.or_eq_true] at h
    rcases h with h | h
    · exact ⟨[], by rw [List.append_nil]; exact h⟩
    · obtain ⟨b, _, hb⟩ := List.any_eq_true.1 h
      obtain ⟨e, he⟩ := closedB_sound m _ hb
      exact ⟨[UInt8.ofNat b] ++ e, by rw [← List.append_assoc]; exact he⟩

/-- a text with a right first character is full -/
theorem right_full {l : Bs} (hl : l ≠ []) (h : rightR (Lib.decodeL l).1 (Lib.decodeL l).2 = true) : fullB l = true := by
  have hn := wid_le l hl
  have hb := by_lt l 0
  unfold fullB fullN
  simp only [Bool.or_eq_true, decide_eq_true_eq]
  left; left
  rcases dec_cases l with ⟨a, e⟩ | ⟨a, e⟩ | ⟨a, e⟩ | ⟨a, e⟩ | ⟨_, _, _, _, e⟩ <;> rw [e] at hn h <;> simp only at hn
  · have : Lib.firstT (by' l 0) = 240 := by unfold Lib.firstT; rw [if_pos a]
    omega
  · rw [Lib.firstT_C2 ⟨a.1, a.2.1⟩]; omega
  · obtain ⟨a1, a2, _⟩ := a
    by_cases e1 : by' l 0 = 224
    · rw [Lib.firstT_E0 e1]; omega
    · by_cases e2 : by' l 0 = 237
      · rw [Lib.firstT_ED e2]; omega
      · rw [Lib.firstT_E1 (by omega)]; omega
  · obtain ⟨a1, a2, _, _, _, _, _, _, _, a9, a10⟩ := a
    by_cases e1 : by' l 0 = 240
    · rw [Lib.firstT_F0 e1]; omega
    · by_cases e2 : by' l 0 = 244
      · rw [Lib.firstT_F4 e2]; omega
      · rw [Lib.firstT_F1 (by unfold n4 at a10; omega)]; omega
  · cases h

/-- the beginning of a right sequence, and not the whole, is not full -/
theorem part_notfull {l e : Bs} (hl : l ≠ []) (he : e ≠ []) (h : seqB (l ++ e) = true) : fullB l = false := by
  obtain ⟨_, hr, hw⟩ := (seqB_iff _).1 h
  have h1 : 1 ≤ l.length := by cases l; contradiction; simp
  have h2 : 1 ≤ e.length := by cases e; contradiction; simp
  have hlen : (l ++ e).length = l.length + e.length := by simp
  have b0 : by' (l ++ e) 0 = by' l 0 := by_append_left _ _ _ h1
  have b1 : 1 < l.length → by' (l ++ e) 1 = by' l 1 := fun h => by_append_left _ _ _ h
  have b2 : 2 < l.length → by' (l ++ e) 2 = by' l 2 := fun h => by_append_left _ _ _ h
  unfold fullB fullN
  simp only [Bool.or_eq_false_iff, Bool.and_eq_false_iff, decide_eq_false_iff_not]
  rcases dec_cases (l ++ e) with ⟨a, q⟩ | ⟨a, q⟩ | ⟨a, q⟩ | ⟨a, q⟩ | ⟨_, _, _, _, q⟩ <;> rw [q] at hw hr <;> simp only at hw
  · omega
  · rw [b0] at a
    rw [Lib.firstT_C2 ⟨a.1, a.2.1⟩]
    exact ⟨⟨by omega, by omega⟩, by omega⟩
  · rw [b0] at a
    obtain ⟨a1, a2, a3, a4, a5, a6, a7, a8, a9⟩ := a
    unfold n3 at a8 a9
    by_cases e1 : by' l 0 = 224
    · rw [Lib.firstT_E0 e1]
      refine ⟨⟨by omega, ?_⟩, by omega⟩
      by_cases c : 1 < l.length
      · rw [b1 c] at *; right; exact ⟨by simp [Lib.accLo]; omega, by simp [Lib.accHi]; omega⟩
      · exact .inl c
    · by_cases e2 : by' l 0 = 237
      · rw [Lib.firstT_ED e2]
        refine ⟨⟨by omega, ?_⟩, by omega⟩
        by_cases c : 1 < l.length
        · rw [b1 c] at *; right; exact ⟨by simp [Lib.accLo]; omega, by simp [Lib.accHi]; omega⟩
        · exact .inl c
      · rw [Lib.firstT_E1 (by omega)]
        refine ⟨⟨by omega, ?_⟩, by omega⟩
        by_cases c : 1 < l.length
        · rw [b1 c] at *; right; exact ⟨by simp [Lib.accLo]; omega, by simp [Lib.accHi]; omega⟩
        · exact .inl c
  · rw [b0] at a
    obtain ⟨a1, a2, a3, a4, a5, a6, a7, a8, a9, a10, a11⟩ := a
    unfold n4 at a10 a11
    have c2 : ¬ 2 < l.length ∨ ¬ by' l 2 < 128 ∧ ¬ 191 < by' l 2 := by
      by_cases c : 2 < l.length
      · rw [b2 c] at *; right; omega
      · exact .inl c
    by_cases e1 : by' l 0 = 240
    · rw [Lib.firstT_F0 e1]
      refine ⟨⟨by omega, ?_⟩, c2⟩
      by_cases c : 1 < l.length
      · rw [b1 c] at *; right; exact ⟨by simp [Lib.accLo]; omega, by simp [Lib.accHi]; omega⟩
      · exact .inl c
    · by_cases e2 : by' l 0 = 244
      · rw [Lib.firstT_F4 e2]
        refine ⟨⟨by omega, ?_⟩, c2⟩
        by_cases c : 1 < l.length
        · rw [b1 c] at *; right; exact ⟨by simp [Lib.accLo]; omega, by simp [Lib.accHi]; omega⟩
        · exact .inl c
      · rw [Lib.firstT_F1 (by omega)]
        refine ⟨⟨by omega, ?_⟩, c2⟩
        by_cases c : 1 < l.length
        · rw [b1 c] at *; right; exact ⟨by simp [Lib.accLo]; omega, by simp [Lib.accHi]; omega⟩
        · exact .inl c
  · cases hr

theorem seq_of2 {t : Bs} (hl : t.length = 2) (h : Ok2 t.length (by' t 0) (by' t 1)) : seqB t = true := by
  rw [seqB_iff, dec_ok2 h]
  exact ⟨(by intro e; rw [e] at hl; cases hl), rightR_two _ _ (by omega), hl.symm⟩
theorem seq_of3 {t : Bs} (hl : t.length = 3) (h : Ok3 t.length (by' t 0) (by' t 1) (by' t 2)) : seqB t = true := by
  rw [seqB_iff, dec_ok3 h]
  exact ⟨(by intro e; rw [e] at hl; cases hl), rightR_two _ _ (by omega), hl.symm⟩
theorem seq_of4 {t : Bs} (hl : t.length = 4) (h : Ok4 t.length (by' t 0) (by' t 1) (by' t 2) (by' t 3)) : seqB t = true := by
  rw [seqB_iff, dec_ok4 h]
  exact ⟨(by intro e; rw [e] at hl; cases hl), rightR_two _ _ (by omega), hl.symm⟩

theorem complete_C2 {l : Bs} (hl : 1 ≤ l.length) (hc : 194 ≤ by' l 0 ∧ by' l 0 < 224) (h : fullB l = false) : closedB l 3 = true := by
  unfold fullB fullN at h
  simp only [Bool.or_eq_false_iff, Bool.and_eq_false_iff, decide_eq_false_iff_not] at h
  obtain ⟨⟨h1, h2⟩, h3⟩ := h
  rw [Lib.firstT_C2 hc] at h1 h2
  rw [show Lib.accLo (2 / 16) = 128 from rfl, show Lib.accHi (2 / 16) = 191 from rfl] at h2
  have hz : l.length = 1 := by omega
  have hlen : (l ++ ([128] : Bs)).length = 2 := by simp [hz]
  have c0 : by' (l ++ ([128] : Bs)) 0 = by' l 0 := by_append_left _ _ _ (by omega)
  have c1 : by' (l ++ ([128] : Bs)) 1 = 128 := by have := by_append_right l ([128] : Bs) 0; rw [hz] at this; exact this
  refine closedB_ext 3 l [128] (by decide) (by simp) (seq_of2 hlen ?_)
  rw [hlen, c0, c1]
  unfold Ok2
  omega

theorem complete_E0 {l : Bs} (hl : 1 ≤ l.length) (hc : by' l 0 = 224) (h : fullB l = false) : closedB l 3 = true := by
  unfold fullB fullN at h
  simp only [Bool.or_eq_false_iff, Bool.and_eq_false_iff, decide_eq_false_iff_not] at h
  obtain ⟨⟨h1, h2⟩, h3⟩ := h
  rw [Lib.firstT_E0 hc] at h1 h2
  rw [show Lib.accLo (19 / 16) = 160 from rfl, show Lib.accHi (19 / 16) = 191 from rfl] at h2
  rcases Nat.lt_or_ge l.length 2 with hn | hn
  · have hz : l.length = 1 := by omega
    have hlen : (l ++ ([160, 128] : Bs)).length = 3 := by simp [hz]
    have c0 : by' (l ++ ([160, 128] : Bs)) 0 = by' l 0 := by_append_left _ _ _ (by omega)
    have c1 : by' (l ++ ([160, 128] : Bs)) 1 = 160 := by have := by_append_right l ([160, 128] : Bs) 0; rw [hz] at this; exact this
    have c2 : by' (l ++ ([160, 128] : Bs)) 2 = 128 := by have := by_append_right l ([160, 128] : Bs) 1; rw [hz] at this; exact this
    refine closedB_ext 3 l [160, 128] (by decide) (by simp) (seq_of3 hlen ?_)
    rw [hlen, c0, c1, c2]
    unfold Ok3 n3
    omega
  · have hz : l.length = 2 := by omega
    have hlen : (l ++ ([128] : Bs)).length = 3 := by simp [hz]
    have c0 : by' (l ++ ([128] : Bs)) 0 = by' l 0 := by_append_left _ _ _ (by omega)
    have c1 : by' (l ++ ([128] : Bs)) 1 = by' l 1 := by_append_left _ _ _ (by omega)
    have c2 : by' (l ++ ([128] : Bs)) 2 = 128 := by have := by_append_right l ([128] : Bs) 0; rw [hz] at this; exact this
    refine closedB_ext 3 l [128] (by decide) (by simp) (seq_of3 hlen ?_)
    rw [hlen, c0, c1, c2]
    unfold Ok3 n3
    omega

theorem complete_E1 {l : Bs} (hl : 1 ≤ l.length) (hc : (225 ≤ by' l 0 ∧ by' l 0 < 237) ∨ (238 ≤ by' l 0 ∧ by' l 0 < 240)) (h : fullB l = false) : closedB l 3 = true := by
  unfold fullB fullN at h
  simp only [Bool.or_eq_false_iff, Bool.and_eq_false_iff, decide_eq_false_iff_not] at h
  obtain ⟨⟨h1, h2⟩, h3⟩ := h
  rw [Lib.firstT_E1 hc] at h1 h2
  rw [show Lib.accLo (3 / 16) = 128 from rfl, show Lib.accHi (3 / 16) = 191 from rfl] at h2
  rcases Nat.lt_or_ge l.length 2 with hn | hn
  · have hz : l.length = 1 := by omega
    have hlen : (l ++ ([128, 128] : Bs)).length = 3 := by simp [hz]
    have c0 : by' (l ++ ([128, 128] : Bs)) 0 = by' l 0 := by_append_left _ _ _ (by omega)
    have c1 : by' (l ++ ([128, 128] : Bs)) 1 = 128 := by have := by_append_right l ([128, 128] : Bs) 0; rw [hz] at this; exact this
    have c2 : by' (l ++ ([128, 128] : Bs)) 2 = 128 := by have := by_append_right l ([128, 128] : Bs) 1; rw [hz] at this; exact this
    refine closedB_ext 3 l [128, 128] (by decide) (by simp) (seq_of3 hlen ?_)
    rw [hlen, c0, c1, c2]
    unfold Ok3 n3
    omega
  · have hz : l.length = 2 := by omega
    have hlen : (l ++ ([128] : Bs)).length = 3 := by simp [hz]
    have c0 : by' (l ++ ([128] : Bs)) 0 = by' l 0 := by_append_left _ _ _ (by omega)
    have c1 : by' (l ++ ([128] : Bs)) 1 = by' l 1 := by_append_left _ _ _ (by omega)
    have c2 : by' (l ++ ([128] : Bs)) 2 = 128 := by have := by_append_right l ([128] : Bs) 0; rw [hz] at this; exact this
    refine closedB_ext 3 l [128] (by decide) (by simp) (seq_of3 hlen ?_)
    rw [hlen, c0, c1, c2]
    unfold Ok3 n3
    omega

theorem complete_ED {l : Bs} (hl : 1 ≤ l.length) (hc : by' l 0 = 237) (h : fullB l = false) : closedB l 3 = true := by
  unfold fullB fullN at h
  simp only [Bool.or_eq_false_iff, Bool.and_eq_false_iff, decide_eq_false_iff_not] at h
  obtain ⟨⟨h1, h2⟩, h3⟩ := h
  rw [Lib.firstT_ED hc] at h1 h2
  rw [show Lib.accLo (35 / 16) = 128 from rfl, show Lib.accHi (35 / 16) = 159 from rfl] at h2
  rcases Nat.lt_or_ge l.length 2 with hn | hn
  · have hz : l.length = 1 := by omega
    have hlen : (l ++ ([128, 128] : Bs)).length = 3 := by simp [hz]
    have c0 : by' (l ++ ([128, 128] : Bs)) 0 = by' l 0 := by_append_left _ _ _ (by omega)
    have c1 : by' (l ++ ([128, 128] : Bs)) 1 = 128 := by have := by_append_right l ([128, 128] : Bs) 0; rw [hz] at this; exact this
    have c2 : by' (l ++ ([128, 128] : Bs)) 2 = 128 := by have := by_append_right l ([128, 128] : Bs) 1; rw [hz] at this; exact this
    refine closedB_ext 3 l [128, 128] (by decide) (by simp) (seq_of3 hlen ?_)
    rw [hlen, c0, c1, c2]
    unfold Ok3 n3
    omega
  · have hz : l.length = 2 := by omega
    have hlen : (l ++ ([128] : Bs)).length = 3 := by simp [hz]
    have c0 : by' (l ++ ([128] : Bs)) 0 = by' l 0 := by_append_left _ _ _ (by omega)
    have c1 : by' (l ++ ([128] : Bs)) 1 = by' l 1 := by_append_left _ _ _ (by omega)
    have c2 : by' (l ++ ([128] : Bs)) 2 = 128 := by have := by_append_right l ([128] : Bs) 0; rw [hz] at this; exact this
    refine closedB_ext 3 l [128] (by decide) (by simp) (seq_of3 hlen ?_)
    rw [hlen, c0, c1, c2]
    unfold Ok3 n3
    omega

theorem complete_F0 {l : Bs} (hl : 1 ≤ l.length) (hc : by' l 0 = 240) (h : fullB l = false) : closedB l 3 = true := by
  unfold fullB fullN at h
  simp only [Bool.or_eq_false_iff, Bool.and_eq_false_iff, decide_eq_false_iff_not] at h
  obtain ⟨⟨h1, h2⟩, h3⟩ := h
  rw [Lib.firstT_F0 hc] at h1 h2
  rw [show Lib.accLo (52 / 16) = 144 from rfl, show Lib.accHi (52 / 16) = 191 from rfl] at h2
  rcases Nat.lt_or_ge l.length 2 with hn | hn
  · have hz : l.length = 1 := by omega
    have hlen : (l ++ ([144, 128, 128] : Bs)).length = 4 := by simp [hz]
    have c0 : by' (l ++ ([144, 128, 128] : Bs)) 0 = by' l 0 := by_append_left _ _ _ (by omega)
    have c1 : by' (l ++ ([144, 128, 128] : Bs)) 1 = 144 := by have := by_append_right l ([144, 128, 128] : Bs) 0; rw [hz] at this; exact this
    have c2 : by' (l ++ ([144, 128, 128] : Bs)) 2 = 128 := by have := by_append_right l ([144, 128, 128] : Bs) 1; rw [hz] at this; exact this
    have c3 : by' (l ++ ([144, 128, 128] : Bs)) 3 = 128 := by have := by_append_right l ([144, 128, 128] : Bs) 2; rw [hz] at this; exact this
    refine closedB_ext 3 l [144, 128, 128] (by decide) (by simp) (seq_of4 hlen ?_)
    rw [hlen, c0, c1, c2, c3]
    unfold Ok4 n4
    omega
  · rcases Nat.lt_or_ge l.length 3 with hn3 | hn3
    · have hz : l.length = 2 := by omega
      have hlen : (l ++ ([128, 128] : Bs)).length = 4 := by simp [hz]
      have c0 : by' (l ++ ([128, 128] : Bs)) 0 = by' l 0 := by_append_left _ _ _ (by omega)
      have c1 : by' (l ++ ([128, 128] : Bs)) 1 = by' l 1 := by_append_left _ _ _ (by omega)
      have c2 : by' (l ++ ([128, 128] : Bs)) 2 = 128 := by have := by_append_right l ([128, 128] : Bs) 0; rw [hz] at this; exact this
      have c3 : by' (l ++ ([128, 128] : Bs)) 3 = 128 := by have := by_append_right l ([128, 128] : Bs) 1; rw [hz] at this; exact this
      refine closedB_ext 3 l [128, 128] (by decide) (by simp) (seq_of4 hlen ?_)
      rw [hlen, c0, c1, c2, c3]
      unfold Ok4 n4
      omega
    · have hz : l.length = 3 := by omega
      have hlen : (l ++ ([128] : Bs)).length = 4 := by simp [hz]
      have c0 : by' (l ++ ([128] : Bs)) 0 = by' l 0 := by_append_left _ _ _ (by omega)
      have c1 : by' (l ++ ([128] : Bs)) 1 = by' l 1 := by_append_left _ _ _ (by omega)
      have c2 : by' (l ++ ([128] : Bs)) 2 = by' l 2 := by_append_left _ _ _ (by omega)
      have c3 : by' (l ++ ([128] : Bs)) 3 = 128 := by have := by_append_right l ([128] : Bs) 0; rw [hz] at this; exact this
      refine closedB_ext 3 l [128] (by decide) (by simp) (seq_of4 hlen ?_)
      rw [hlen, c0, c1, c2, c3]
      unfold Ok4 n4
      omega

theorem complete_F1 {l : Bs} (hl : 1 ≤ l.length) (hc : 241 ≤ by' l 0 ∧ by' l 0 < 244) (h : fullB l = false) : closedB l 3 = true := by
  unfold fullB fullN at h
  simp only [Bool.or_eq_false_iff, Bool.and_eq_false_iff, decide_eq_false_iff_not] at h
  obtain ⟨⟨h1, h2⟩, h3⟩ := h
  rw [Lib.firstT_F1 hc] at h1 h2
  rw [show Lib.accLo (4 / 16) = 128 from rfl, show Lib.accHi (4 / 16) = 191 from rfl] at h2
  rcases Nat.lt_or_ge l.length 2 with hn | hn
  · have hz : l.length = 1 := by omega
    have hlen : (l ++ ([128, 128, 128] : Bs)).length = 4 := by simp [hz]
    have c0 : by' (l ++ ([128, 128, 128] : Bs)) 0 = by' l 0 := by_append_left _ _ _ (by omega)
    have c1 : by' (l ++ ([128, 128, 128] : Bs)) 1 = 128 := by have := by_append_right l ([128, 128, 128] : Bs) 0; rw [hz] at this; exact this
    have c2 : by' (l ++ ([128, 128, 128] : Bs)) 2 = 128 := by have := by_append_right l ([128, 128, 128] : Bs) 1; rw [hz] at this; exact this
    have c3 : by' (l ++ ([128, 128, 128] : Bs)) 3 = 128 := by have := by_append_right l ([128, 128, 128] : Bs) 2; rw [hz] at this; exact this
    refine closedB_ext 3 l [128, 128, 128] (by decide) (by simp) (seq_of4 hlen ?_)
    rw [hlen, c0, c1, c2, c3]
    unfold Ok4 n4
    omega
  · rcases Nat.lt_or_ge l.length 3 with hn3 | hn3
    · have hz : l.length = 2 := by omega
      have hlen : (l ++ ([128, 128] : Bs)).length = 4 := by simp [hz]
      have c0 : by' (l ++ ([128, 128] : Bs)) 0 = by' l 0 := by_append_left _ _ _ (by omega)
      have c1 : by' (l ++ ([128, 128] : Bs)) 1 = by' l 1 := by_append_left _ _ _ (by omega)
      have c2 : by' (l ++ ([128, 128] : Bs)) 2 = 128 := by have := by_append_right l ([128, 128] : Bs) 0; rw [hz] at this; exact this
      have c3 : by' (l ++ ([128, 128] : Bs)) 3 = 128 := by have := by_append_right l ([128, 128] : Bs) 1; rw [hz] at this; exact this
      refine closedB_ext 3 l [128, 128] (by decide) (by simp) (seq_of4 hlen ?_)
      rw [hlen, c0, c1, c2, c3]
      unfold Ok4 n4
      omega
    · have hz : l.length = 3 := by omega
      have hlen : (l ++ ([128] : Bs)).length = 4 := by simp [hz]
      have c0 : by' (l ++ ([128] : Bs)) 0 = by' l 0 := by_append_left _ _ _ (by omega)
      have c1 : by' (l ++ ([128] : Bs)) 1 = by' l 1 := by_append_left _ _ _ (by omega)
      have c2 : by' (l ++ ([128] : Bs)) 2 = by' l 2 := by_append_left _ _ _ (by omega)
      have c3 : by' (l ++ ([128] : Bs)) 3 = 128 := by have := by_append_right l ([128] : Bs) 0; rw [hz] at this; exact this
      refine closedB_ext 3 l [128] (by decide) (by simp) (seq_of4 hlen ?_)
      rw [hlen, c0, c1, c2, c3]
      unfold Ok4 n4
      omega

theorem complete_F4 {l : Bs} (hl : 1 ≤ l.length) (hc : by' l 0 = 244) (h : fullB l = false) : closedB l 3 = true := by
  unfold fullB fullN at h
  simp only [Bool.or_eq_false_iff, Bool.and_eq_false_iff, decide_eq_false_iff_not] at h
  obtain ⟨⟨h1, h2⟩, h3⟩ := h
  rw [Lib.firstT_F4 hc] at h1 h2
  rw [show Lib.accLo (68 / 16) = 128 from rfl, show Lib.accHi (68 / 16) = 143 from rfl] at h2
  rcases Nat.lt_or_ge l.length 2 with hn | hn
  · have hz : l.length = 1 := by omega
    have hlen : (l ++ ([128, 128, 128] : Bs)).length = 4 := by simp [hz]
    have c0 : by' (l ++ ([128, 128, 128] : Bs)) 0 = by' l 0 := by_append_left _ _ _ (by omega)
    have c1 : by' (l ++ ([128, 128, 128] : Bs)) 1 = 128 := by have := by_append_right l ([128, 128, 128] : Bs) 0; rw [hz] at this; exact this
    have c2 : by' (l ++ ([128, 128, 128] : Bs)) 2 = 128 := by have := by_append_right l ([128, 128, 128] : Bs) 1; rw [hz] at this; exact this
    have c3 : by' (l ++ ([128, 128, 128] : Bs)) 3 = 128 := by have := by_append_right l ([128, 128, 128] : Bs) 2; rw [hz] at this; exact this
    refine closedB_ext 3 l [128, 128, 128] (by decide) (by simp) (seq_of4 hlen ?_)
    rw [hlen, c0, c1, c2, c3]
    unfold Ok4 n4
    omega
  · rcases Nat.lt_or_ge l.length 3 with hn3 | hn3
    · have hz : l.length = 2 := by omega
      have hlen : (l ++ ([128, 128] : Bs)).length = 4 := by simp [hz]
      have c0 : by' (l ++ ([128, 128] : Bs)) 0 = by' l 0 := by_append_left _ _ _ (by omega)
      have c1 : by' (l ++ ([128, 128] : Bs)) 1 = by' l 1 := by_append_left _ _ _ (by omega)
      have c2 : by' (l ++ ([128, 128] : Bs)) 2 = 128 := by have := by_append_right l ([128, 128] : Bs) 0; rw [hz] at this; exact this
      have c3 : by' (l ++ ([128, 128] : Bs)) 3 = 128 := by have := by_append_right l ([128, 128] : Bs) 1; rw [hz] at this; exact this
      refine closedB_ext 3 l [128, 128] (by decide) (by simp) (seq_of4 hlen ?_)
      rw [hlen, c0, c1, c2, c3]
      unfold Ok4 n4
      omega
    · have hz : l.length = 3 := by omega
      have hlen : (l ++ ([128] : Bs)).length = 4 := by simp [hz]
      have c0 : by' (l ++ ([128] : Bs)) 0 = by' l 0 := by_append_left _ _ _ (by omega)
      have c1 : by' (l ++ ([128] : Bs)) 1 = by' l 1 := by_append_left _ _ _ (by omega)
      have c2 : by' (l ++ ([128] : Bs)) 2 = by' l 2 := by_append_left _ _ _ (by omega)
      have c3 : by' (l ++ ([128] : Bs)) 3 = 128 := by have := by_append_right l ([128] : Bs) 0; rw [hz] at this; exact this
      refine closedB_ext 3 l [128] (by decide) (by simp) (seq_of4 hlen ?_)
      rw [hlen, c0, c1, c2, c3]
      unfold Ok4 n4
      omega

theorem complete {l : Bs} (hl : 1 ≤ l.length) (h : fullB l = false) : closedB l 3 = true := by
  have hnf := not_full hl h
  have hx : Lib.firstT (by' l 0) < 240 := by
    have hb := by_lt l 0
    unfold fullB fullN at h
    simp only [Bool.or_eq_false_iff, Bool.and_eq_false_iff, decide_eq_false_iff_not] at h
    rcases Lib.firstT_cases (by' l 0) with e | e | e
    · rw [e] at h; omega
    · rw [e] at h; omega
    · omega
  rcases Lib.firstT_low hx with e | e | e | e | e | e | e
  · exact complete_C2 hl e h
  · exact complete_E0 hl e h
  · exact complete_E1 hl e h
  · exact complete_ED hl e h
  · exact complete_F0 hl e h
  · exact complete_F1 hl e h
  · exact complete_F4 hl e h

/-- The document's beginning, of what has no right first character, is the library's. -/
theorem closed_full {l : Bs} (hl : l ≠ []) (hr : rightR (Lib.decodeL l).1 (Lib.decodeL l).2 = false) : closedB l 3 = !fullB l := by
  have h1 : 1 ≤ l.length := by cases l; contradiction; simp
  cases hf : fullB l
  · exact complete h1 hf
  · refine Bool.eq_false_iff.2 fun hc => ?_
    obtain ⟨e, he⟩ := closedB_sound 3 l hc
    by_cases hne : e = []
    · subst hne
      rw [List.append_nil] at he
      have := ((seqB_iff l).1 he).2.1
      rw [hr] at this; cases this
    · rw [part_notfull hl hne he] at hf; cases hf

theorem properB_short {l : Bs} (h : l.length < 1) : properB l = false := by
  have : decide (1 ≤ l.length) = false := decide_eq_false (by omega)
  simp [properB, this]
theorem properB_long {l : Bs} (h : 3 < l.length) : properB l = false := by
  have : decide (l.length ≤ 3) = false := decide_eq_false (by omega)
  simp [properB, this]
theorem properB_mid {l : Bs} (h1 : 1 ≤ l.length) (h3 : l.length ≤ 3) : properB l = !fullB l := by simp [properB, h1, h3]

end Go.Proofs.YticonolnagcakaaDoor

namespace Go.Proofs.YticonolnagcakaaDoor
open Go.RowKit

/-- The cells of one character, and of a text's. -/
def charCells (p : Nat) (c : Nat × Nat) : List Value := [.int .i64 p, .int .i32 c.1, .int .i64 c.2, .bool (rightR c.1 c.2)]
def rowCells : List (Nat × Nat) → Nat → List Value
  | [], _ => []
  | c :: t, p => charCells p c ++ rowCells t (p + c.2)
theorem rowCells_snoc (t : List (Nat × Nat)) (c : Nat × Nat) (p : Nat) : rowCells (t ++ [c]) p = rowCells t p ++ charCells (p + wsum t) c := by
  induction t generalizing p with
  | nil => simp [rowCells, wsum]
  | cons d t ih => simp [rowCells, ih, wsum_cons, Nat.add_assoc]
theorem rowCells_at (t : List (Nat × Nat)) (p i j : Nat) (hi : i < t.length) (hj : j < 4) : (rowCells t p)[i * 4 + j]? = (charCells (p + wsum (t.take i)) (t[i]?.getD (0, 0)))[j]? := by
  induction t generalizing p i with
  | nil => simp at hi
  | cons d t ih =>
    cases i with
    | zero =>
      rw [rowCells, List.getElem?_append_left (by simp [charCells]; omega)]
      simp [wsum]
    | succ i =>
      rw [rowCells, List.getElem?_append_right (by simp [charCells]; omega)]
      have e : (i + 1) * 4 + j - (charCells p d).length = i * 4 + j := by simp [charCells]; omega
      rw [e, ih _ _ (by simpa using hi)]
      simp [wsum_cons, Nat.add_assoc]

theorem charCells_one (p : Nat) (c : Nat × Nat) : ∀ u ∈ charCells p c, u.oneCell' = true := by
  intro u hu
  simp [charCells] at hu
  rcases hu with rfl | rfl | rfl | rfl <;> rfl

/-! ### what the row is read for -/
/-- a row of characters that lies somewhere -/
def CharsAt (w : World) (ao : Option Addr) (l : Bs) : Prop :=
  ∀ i, i < countN l → ∃ g, ao = some ⟨g, 0, none⟩ ∧ w.cell? ⟨g, i * 4, none⟩ = some (.int .i64 (atN l i)) ∧ w.cell? ⟨g, i * 4 + 1, none⟩ = some (.int .i32 ((tk l)[i]?.getD (0, 0)).1) ∧
    w.cell? ⟨g, i * 4 + 2, none⟩ = some (.int .i64 ((tk l)[i]?.getD (0, 0)).2) ∧ w.cell? ⟨g, i * 4 + 3, none⟩ = some (.bool (rightR ((tk l)[i]?.getD (0, 0)).1 ((tk l)[i]?.getD (0, 0)).2))

theorem CharsAt.below {w w' : World} {ao : Option Addr} {l : Bs} (h : CharsAt w ao l) {B : Nat} (hb : Below B w w') (hB : w.heap.size ≤ B) : CharsAt w' ao l := by
  intro i hi
  obtain ⟨g, e, h0, h1, h2, h3⟩ := h i hi
  have hlt := World.block_lt_of_cell? w _ h0
  simp only at hlt
  exact ⟨g, e, (hb.cell (p := ⟨g, _, none⟩) (by show g < B; omega)).trans h0, (hb.cell (p := ⟨g, _, none⟩) (by show g < B; omega)).trans h1, (hb.cell (p := ⟨g, _, none⟩) (by show g < B; omega)).trans h2, (hb.cell (p := ⟨g, _, none⟩) (by show g < B; omega)).trans h3⟩

theorem CharsAt.owned {w : World} {base : Nat} {e : TypeId} {v : Value} {l : Bs} (h : w.ownsRow base e 4 v (countN l) (rowCells (tk l) 0)) : ∃ ao cap, v = .slice ao (countN l) cap ∧ CharsAt w ao l := by
  rcases h.2 with ⟨rfl, h0⟩ | ⟨g, cap, cur, rfl, hg, hh, hn, hc, hs, ht⟩
  · exact ⟨none, 0, by rw [h0], fun i hi => by omega⟩
  · refine ⟨_, cap, rfl, fun i hi => ⟨g, rfl, ?_⟩⟩
    have hi' : i < (tk l).length := hi
    have key : ∀ j, j < 4 → w.cell? ⟨g, i * 4 + j, none⟩ = (charCells (atN l i) ((tk l)[i]?.getD (0, 0)))[j]? := by
      intro j hj
      rw [h.cellAt (i * 4 + j) (by omega), rowCells_at _ _ _ _ hi' hj, Nat.zero_add]
      rfl
    exact ⟨key 0 (by omega), key 1 (by omega), key 2 (by omega), key 3 (by omega)⟩

theorem bs_len_le (s : ByteArray) : countN (bs s) ≤ s.size := by rw [size_bs]; exact countN_le _

theorem countN_pos {l : Bs} (h : l ≠ []) : 1 ≤ countN l := by unfold countN; rw [tk_cons l h]; simp
theorem lastC_get {l : Bs} (h : l ≠ []) : (tk l)[countN l - 1]?.getD (0, 0) = lastC l := by
  have hp := countN_pos h
  unfold lastC
  rw [List.getLast?_eq_getElem?]
  unfold countN at *
  rw [List.getElem?_eq_getElem (by omega)]
  rfl

theorem info_i32 : (Tryd.prog.info? 21).map (fun i => (i.zero, i.size, i.bytes)) = some (some (.int .i32 0), 1, 4) := by kernel_rfl
/-- The runes of a text. -/
def runesZ (l : Bs) : List Int := (tk l).map fun c => (c.1 : Int)
theorem runesZ_len (l : Bs) : (runesZ l).length = countN l := by simp [runesZ, countN]
theorem runesZ_snoc (l : Bs) (k : Nat) (h : k < countN l) : (runesZ l).take (k + 1) = (runesZ l).take k ++ [((((tk l)[k]?.getD (0, 0)).1 : Nat) : Int)] := by
  have h' : k < (tk l).length := h
  rw [List.take_succ_eq_append_getElem (by rw [runesZ_len]; exact h)]
  simp only [runesZ, List.getElem_map, List.getElem?_eq_getElem h', Option.getD_some]

/-- the greatest character that begins at or ahead of a place has it -/
theorem ofT_max {l : Bs} {q m : Nat} (hq : q < l.length) (hm : m < countN l) (h1 : atN l m ≤ q) (h2 : ∀ j, j < countN l → atN l j ≤ q → j ≤ m) : ofT (tk l) q = m := by
  have hc := cut_at l m (by omega)
  have hlen : ((tk l).take m).length = m := by unfold countN at hm; simp; omega
  have hp : atN l m < l.length := by omega
  have hst := hc.step hp
  have hat := hst.at'
  rw [List.length_append, hlen, List.length_singleton] at hat
  have := ofT_cut hc hp h1 (by
    rcases Nat.lt_or_ge q (atN l m + (Lib.decodeL (l.drop (atN l m))).2) with h | h
    · exact h
    · exfalso
      rw [← hat] at h
      by_cases e : m + 1 < countN l
      · have := h2 (m + 1) e h; omega
      · have : m + 1 = countN l := by omega
        rw [this, atN_full] at h
        omega)
  rw [this, hlen]

end Go.Proofs.YticonolnagcakaaDoor

namespace Go.Proofs.YticonolnagcakaaDoor
open Go.RowKit

theorem info_u8 : (Tryd.prog.info? 5).map (fun i => (i.zero, i.size, i.bytes)) = some (some (.int .u8 0), 1, 1) := by kernel_rfl

/-- The bytes of a list of runes. -/
def encZ (rs : List Int) : List Int := rs.flatMap Lib.encodeRuneZ
def encS (rs : List Int) : ByteArray := strOfNums (encZ rs)

theorem encZ_le (rs : List Int) : (encZ rs).length ≤ 4 * rs.length := by
  induction rs with
  | nil => simp [encZ]
  | cons r rs ih =>
    have := (Lib.encodeRuneZ_length r).2
    simp [encZ] at ih ⊢
    omega

theorem encZ_snoc (rs : List Int) (k : Nat) (h : k < rs.length) : encZ (rs.take (k + 1)) = encZ (rs.take k) ++ Lib.encodeRuneZ (rs[k]?.getD 0) := by
  rw [List.take_succ_eq_append_getElem h]
  unfold encZ
  rw [List.flatMap_append, List.getElem?_eq_getElem h]
  simp only [List.flatMap_cons, List.flatMap_nil, List.append_nil, Option.getD_some]

theorem encZ_take_le (rs : List Int) (k : Nat) (h : k ≤ rs.length) : (encZ (rs.take k)).length ≤ 4 * k := by
  have := encZ_le (rs.take k)
  simp at this
  omega

/-- What the document encodes for a rune: FFFD's sequence where it may not be. -/
def fixR (r : Int) : Int := if mayB r = true then r else 65533
theorem seqZ_fix (r : Int) : seqZ (fixR r) = Lib.encodeRuneZ r := by
  unfold fixR
  by_cases h : mayB r = true
  · rw [if_pos h]
    have h' := of_decide_eq_true h
    by_cases h1 : r < 128
    · rw [seqZ_one h1, Lib.encodeRuneZ_one (by omega) (by omega)]
    · by_cases h2 : r < 2048
      · rw [seqZ_two h1 h2, Lib.encodeRuneZ_two (by omega) (by omega)]
      · by_cases h3 : r < 65536
        · rw [seqZ_three h2 h3, Lib.encodeRuneZ_three (by omega)]
        · rw [seqZ_four h3, Lib.encodeRuneZ_four (by omega) (by omega)]
  · rw [if_neg h, Lib.encodeRuneZ_bad]
    · rfl
    · have h' := of_decide_eq_false (Bool.eq_false_iff.2 h)
      omega

theorem appended (rs : List Int) (k : Nat) (h : k < rs.length) : (encZ (rs.take k)).length + (seqZ (fixR (rs[k]?.getD 0))).length = (encZ (rs.take (k + 1))).length ∧
    (encZ (rs.take k)).map (Value.int .u8) ++ (seqZ (fixR (rs[k]?.getD 0))).map (Value.int .u8) = (encZ (rs.take (k + 1))).map (Value.int .u8) := by
  rw [encZ_snoc rs k h, seqZ_fix]
  simp

theorem seqZ_le (r : Int) : 1 ≤ (seqZ r).length ∧ (seqZ r).length ≤ 4 := by
  unfold seqZ
  split
  · simp
  · split
    · simp
    · split <;> simp

end Go.Proofs.YticonolnagcakaaDoor

namespace Go.Proofs.YticonolnagcakaaDoor
open Go.RowKit

theorem appended2 (rs : List Int) (k : Nat) (h : k < rs.length) : (encZ (rs.take k)).length + (Lib.runeCells (rs[k]?.getD 0)).length = (encZ (rs.take (k + 1))).length ∧
    (encZ (rs.take k)).map (Value.int .u8) ++ Lib.runeCells (rs[k]?.getD 0) = (encZ (rs.take (k + 1))).map (Value.int .u8) := by
  rw [encZ_snoc rs k h]
  simp [Lib.runeCells]

theorem append_any (B : Nat) (v : Value) (n : Nat) (xs : List Value) (r : Int) (hr : -2147483648 ≤ r ∧ r ≤ 2147483647) (w : World) (hown : w.ownsRow B 5 1 v n xs) (hlen : n + 4 ≤ 140737488355328) (hBw : B ≤ w.heap.size) :
    Calls Tryd.prog 45 #[v, .int .i32 r] w fun e w' => ∃ v', e = .returned v' ∧ w'.ownsRow B 5 1 v' (n + (Lib.runeCells r).length) (xs ++ Lib.runeCells r) ∧ Below B w w' := by
  refine (Tryd.utf8_AppendRune_plain B v n xs r hr.1 hr.2 w hown hlen hBw).mono ?_
  rintro e w' ⟨v', rfl, ho, o, hg⟩
  refine ⟨v', rfl, ho, ((Below.refl B w).alloc hBw o).grown hg (by simp; omega) (fun q e => (hown.lt q e).1)⟩

end Go.Proofs.YticonolnagcakaaDoor

namespace Go.Proofs.YticonolnagcakaaDoor
open Go.RowKit

/-! ### Runes -/
theorem owns_iter {w : World} {base : Nat} {e : TypeId} {size : Nat} {v : Value} {n : Nat} {xs : List Value} (h : w.ownsRow base e size v n xs) {K : Nat} {s : ByteArray} {p : Nat} (hk : w.heap[K]? = some (.stringIter s p)) (p' : Nat) : (w.iterAt K s p').ownsRow base e size v n xs := by
  obtain ⟨h1, h2⟩ := h
  refine ⟨h1, ?_⟩
  rcases h2 with h2 | ⟨g, cap, cur, hv, hg, hh, r⟩
  · exact .inl h2
  · refine .inr ⟨g, cap, cur, hv, hg, ?_, r⟩
    rw [Lib.iterAt_other _ _ _ _ _ (by rintro rfl; rw [hh] at hk; cases hk)]
    exact hh
theorem iter_grown {w w' : World} {base : Nat} {e : TypeId} {size : Nat} {v : Value} {n : Nat} {xs : List Value} (h : w.ownsRow base e size v n xs) (o : Obj) (hg : (w.alloc o).grownBy w' v.ownBlock) {K : Nat} {s : ByteArray} {p : Nat} (hk : w.heap[K]? = some (.stringIter s p)) : w'.heap[K]? = some (.stringIter s p) := by
  have hlt : K < w.heap.size := (Array.getElem?_eq_some_iff.1 hk).1
  rw [hg.block K (by rw [World.size_alloc]; omega) ?_]
  · rw [Below.heap_alloc _ _ _ hlt]; exact hk
  · intro e1
    rcases h.2 with ⟨rfl, _⟩ | ⟨g, cap, cur, rfl, hgb, hh, _⟩
    · simp [Value.ownBlock] at e1
    · simp [Value.ownBlock] at e1
      subst e1
      rw [hh] at hk; cases hk

/-! ### sameRunes -/
def sameZ (a b : List Int) : Bool := decide (a = b)
theorem sameZ_self (a : List Int) : sameZ a a = true := decide_eq_true rfl

/-! ### Mend -/
theorem runesZ_wf (l : Bs) : ∀ r ∈ runesZ l, -2147483648 ≤ r ∧ r ≤ 2147483647 := by
  intro r hr
  obtain ⟨c, hc, rfl⟩ := List.mem_map.1 hr
  have : ∀ (n : Nat) (m : Bs), m.length ≤ n → ∀ c ∈ tk m, c.1 ≤ 1114111 := by
    intro n
    induction n with
    | zero => intro m hm; have : m = [] := List.length_eq_zero_iff.1 (by omega); subst this; intro c hc; simp [tk_nil] at hc
    | succ n ih =>
      intro m hm c hc
      by_cases h : m = []
      · subst h; simp [tk_nil] at hc
      · rw [tk_cons m h] at hc
        rcases List.mem_cons.1 hc with rfl | hc
        · exact dec_le m
        · have h1 := (wid_bounds m).1
          have : 1 ≤ m.length := by cases m; contradiction; simp
          exact ih _ (by simp; omega) c hc
  have := this l.length l (Nat.le_refl _) c hc
  omega

end Go.Proofs.YticonolnagcakaaDoor

namespace Go.Proofs.YticonolnagcakaaDoor
open Go.RowKit

/-- First, the program's and the document's, in one form for every text. -/
def firstV (l : Bs) : Value := if l = [] then .tuple #[.int .i32 0, .int .i64 0, .bool false] else .tuple #[.int .i32 (Lib.decodeL l).1, .int .i64 (Lib.decodeL l).2, .bool (rightR (Lib.decodeL l).1 (Lib.decodeL l).2)]

def fR (l : Bs) : Int := if l = [] then 0 else (Lib.decodeL l).1
def fW (l : Bs) : Nat := if l = [] then 0 else (Lib.decodeL l).2
def fB (l : Bs) : Bool := if l = [] then false else rightR (Lib.decodeL l).1 (Lib.decodeL l).2
theorem bs_nil {s : ByteArray} (h : s.size = 0) : bs s = [] := List.length_eq_zero_iff.1 (by rw [← size_bs]; exact h)

theorem first_any (s : ByteArray) (w : World) (hT : Tabs w) :
    Calls Tryd.prog 40 #[.string s] w fun e w' => e = .returned (.tuple #[.int .i32 (fR (bs s)), .int .i64 (fW (bs s)), .bool (fB (bs s))]) ∧ Below w.heap.size w w' := by
  by_cases h : s.size = 0
  · unfold fR fW fB
    rw [if_pos (bs_nil h), if_pos (bs_nil h), if_pos (bs_nil h)]
    exact first_empty s h w
  · unfold fR fW fB
    rw [if_neg (bs_ne h), if_neg (bs_ne h), if_neg (bs_ne h)]
    exact first_some s _ _ h rfl rfl w hT
def lR (l : Bs) : Int := if l = [] then 0 else (lastC l).1
def lW (l : Bs) : Nat := if l = [] then 0 else (lastC l).2
def lB (l : Bs) : Bool := if l = [] then false else rightR (lastC l).1 (lastC l).2
end Go.Proofs.YticonolnagcakaaDoor

namespace Go.Proofs.YticonolnagcakaaDoor
open Go.RowKit

/-- how many of the next bytes close what is pending -/
def closN (p b : Bs) : Nat := if properB p = true ∧ fB (p ++ b.take 4) = true then fW (p ++ b.take 4) - p.length else 0

theorem pend_len_iff {p : Bs} (h : p ≠ []) : pendN p = p.length ↔ properB p = true := by
  have h1 : 1 ≤ p.length := by cases p; contradiction; simp
  have ht : p.length ≤ 3 → tailOf p p.length = p := fun _ => by unfold tailOf; simp
  constructor
  · intro e
    have h3 := (pend_le p).1
    unfold pendN at e
    split at e
    · rename_i hh
      have := ht (by omega)
      rw [← e] at this
      rw [this] at hh
      exact hh.2
    · split at e
      · rename_i hh
        have := ht (by omega)
        rw [← e] at this
        rw [this] at hh
        exact hh.2
      · split at e
        · rename_i hh
          have := ht (by omega)
          rw [← e] at this
          rw [this] at hh
          exact hh.2
        · omega
  · intro hp
    have hf := proper_full hp
    have hn := not_full hf.2.1 hf.1
    have htl := ht hf.2.2
    have := pend_back (l := p) (k := p.length) hf.2.1 hf.2.2 (Nat.le_refl _) (fun j h1 h2 => by
      exact hn.2.2.2.1 (p.length - j) (by omega) (by omega) (by omega)) (by rw [Nat.sub_self]; exact hn.1)
    rw [this, htl, hf.1]
    simp

theorem dec_ascii {l : Bs} (h : by' l 0 < 128) : Lib.decodeL l = (by' l 0, 1) := by
  rcases dec_cases l with ⟨_, e⟩ | ⟨a, _⟩ | ⟨a, _⟩ | ⟨a, _⟩ | ⟨a, _⟩
  · exact e
  · have := a.1; omega
  · have := a.1; omega
  · have := a.1; omega
  · omega

/-- a right first character that lies in the first part is the first part's -/
theorem dec_prefix {p b : Bs} (hne : p ≠ []) (hr : rightR (Lib.decodeL (p ++ b)).1 (Lib.decodeL (p ++ b)).2 = true) (hw : (Lib.decodeL (p ++ b)).2 ≤ p.length) : Lib.decodeL p = Lib.decodeL (p ++ b) := by
  have h1 : 1 ≤ p.length := by cases p; contradiction; simp
  have c : ∀ k, k < p.length → by' (p ++ b) k = by' p k := fun k h => by_append_left _ _ _ h
  rcases dec_cases (p ++ b) with ⟨a, e⟩ | ⟨a, e⟩ | ⟨a, e⟩ | ⟨a, e⟩ | ⟨_, _, _, _, e⟩ <;> rw [e] at hw hr ⊢ <;> simp only at hw
  · rw [c 0 h1] at a ⊢; exact dec_ascii a
  · rw [c 0 h1, c 1 (by omega)] at a ⊢
    exact dec_ok2 (l := p) ⟨a.1, a.2.1, hw, a.2.2.2⟩
  · rw [c 0 h1, c 1 (by omega), c 2 (by omega)] at a ⊢
    exact dec_ok3 (l := p) ⟨a.1, a.2.1, hw, a.2.2.2⟩
  · rw [c 0 h1, c 1 (by omega), c 2 (by omega), c 3 (by omega)] at a ⊢
    exact dec_ok4 (l := p) ⟨a.1, a.2.1, hw, a.2.2.2⟩
  · cases hr

/-- a right first character stays, whatever comes behind -/
theorem dec_extend {p b : Bs} (hne : p ≠ []) (hr : rightR (Lib.decodeL p).1 (Lib.decodeL p).2 = true) : Lib.decodeL (p ++ b) = Lib.decodeL p := by
  have h1 : 1 ≤ p.length := by cases p; contradiction; simp
  have c : ∀ k, k < p.length → by' (p ++ b) k = by' p k := fun k h => by_append_left _ _ _ h
  have hl : p.length ≤ (p ++ b).length := by simp
  have hw := wid_le p hne
  rcases dec_cases p with ⟨a, e⟩ | ⟨a, e⟩ | ⟨a, e⟩ | ⟨a, e⟩ | ⟨_, _, _, _, e⟩ <;> rw [e] at hw hr ⊢ <;> simp only at hw
  · rw [← c 0 h1] at a ⊢; exact dec_ascii a
  · rw [← c 0 h1, ← c 1 (by omega)] at a ⊢
    exact dec_ok2 ⟨a.1, a.2.1, by omega, a.2.2.2⟩
  · rw [← c 0 h1, ← c 1 (by omega), ← c 2 (by omega)] at a ⊢
    exact dec_ok3 ⟨a.1, a.2.1, by omega, a.2.2.2⟩
  · rw [← c 0 h1, ← c 1 (by omega), ← c 2 (by omega), ← c 3 (by omega)] at a ⊢
    exact dec_ok4 ⟨a.1, a.2.1, by omega, a.2.2.2⟩
  · cases hr

theorem fB_ne {l : Bs} (h : fB l = true) : l ≠ [] ∧ rightR (Lib.decodeL l).1 (Lib.decodeL l).2 = true ∧ fW l = (Lib.decodeL l).2 := by
  unfold fB at h
  by_cases e : l = []
  · rw [if_pos e] at h; cases h
  · rw [if_neg e] at h
    exact ⟨e, h, by unfold fW; rw [if_neg e]⟩
theorem fB_of {l : Bs} (h : l ≠ []) (hr : rightR (Lib.decodeL l).1 (Lib.decodeL l).2 = true) : fB l = true ∧ fW l = (Lib.decodeL l).2 := by
  unfold fB fW
  rw [if_neg h, if_neg h]
  exact ⟨hr, rfl⟩

/-- a proper beginning, gone on with: a right first character of the whole is longer -/
theorem proper_longer {p b : Bs} (hp : properB p = true) (hr : fB (p ++ b) = true) : p.length < fW (p ++ b) := by
  have hf := proper_full hp
  have hne : p ≠ [] := by intro e; rw [e] at hf; simp at hf
  obtain ⟨_, h1, h2⟩ := fB_ne hr
  rw [h2]
  rcases Nat.lt_or_ge p.length (Lib.decodeL (p ++ b)).2 with h | h
  · exact h
  · exfalso
    have := dec_prefix hne h1 h
    have hfu := right_full hne (by rw [this]; exact h1)
    rw [hf.1] at hfu; cases hfu

theorem fW_le {l : Bs} (h : fB l = true) : fW l ≤ l.length ∧ fW l ≤ 4 := by
  obtain ⟨h0, _, h2⟩ := fB_ne h
  rw [h2]
  exact ⟨wid_le l h0, (wid_bounds l).2⟩

theorem closN_bounds (p b : Bs) : closN p b ≤ 3 ∧ closN p b ≤ b.length := by
  unfold closN
  split
  · rename_i h
    have h1 := proper_longer h.1 h.2
    have h2 := fW_le h.2
    have h3 := proper_full h.1
    have : (p ++ b.take 4).length ≤ p.length + b.length := by simp; omega
    omega
  · omega

/-- the first n bytes of the next text close what is pending, just where n is told -/
theorem clos_hit {p b : Bs} (hp : properB p = true) {n : Nat} (h1 : 1 ≤ n) (h3 : n ≤ 3) (hb : n ≤ b.length) :
    (fB (p ++ b.take n) = true ∧ fW (p ++ b.take n) = p.length + n) ↔ closN p b = n := by
  have ht : p ++ b.take 4 = (p ++ b.take n) ++ ((b.take 4).drop n) := by
    have : b.take n = (b.take 4).take n := by rw [List.take_take, Nat.min_eq_left (by omega)]
    rw [List.append_assoc, this, List.take_append_drop]
  have hlen : (p ++ b.take n).length = p.length + n := by simp; omega
  constructor
  · rintro ⟨hr, hw⟩
    obtain ⟨e0, e1, e2⟩ := fB_ne hr
    have hx := dec_extend (b := (b.take 4).drop n) e0 e1
    rw [← ht] at hx
    have hne : p ++ b.take 4 ≠ [] := by rw [ht]; exact List.append_ne_nil_of_left_ne_nil e0 _
    have h4 := fB_of hne (by rw [hx]; exact e1)
    unfold closN
    rw [if_pos ⟨hp, h4.1⟩, h4.2, hx, ← e2, hw]
    omega
  · intro hc
    unfold closN at hc
    split at hc
    · rename_i hh
      obtain ⟨e0, e1, e2⟩ := fB_ne hh.2
      have hw : (Lib.decodeL (p ++ b.take 4)).2 = p.length + n := by have := proper_longer hh.1 hh.2; omega
      have hne : p ++ b.take n ≠ [] := by intro e; rw [e] at hlen; simp at hlen; omega
      have hx := dec_prefix (p := p ++ b.take n) (b := (b.take 4).drop n) hne (by rw [← ht]; exact e1) (by rw [← ht, hw, hlen]; exact Nat.le_refl _)
      rw [← ht] at hx
      have h4 := fB_of hne (by rw [hx]; exact e1)
      exact ⟨h4.1, by rw [h4.2, hx, hw]⟩
    · omega

theorem bs_append (s t : ByteArray) : bs (s ++ t) = bs s ++ bs t := by
  unfold bs
  rw [ByteArray.data_append, Array.toList_append]
theorem bs_take (s : ByteArray) (n : Nat) : bs (s.extract 0 n) = (bs s).take n := by
  rw [bs_extract, List.drop_zero, Nat.sub_zero]

end Go.Proofs.YticonolnagcakaaDoor

namespace Go.Proofs.YticonolnagcakaaDoor
open Go.RowKit

theorem dec_right_or (l : Bs) : rightR (Lib.decodeL l).1 (Lib.decodeL l).2 = true ∨ Lib.decodeL l = (65533, 1) := by
  rcases dec_cases l with ⟨a, e⟩ | ⟨_, e⟩ | ⟨_, e⟩ | ⟨_, e⟩ | ⟨_, _, _, _, e⟩
  · left; rw [e]; exact rightR_ne (by simp only; omega) 1
  · left; rw [e]; exact rightR_two _ _ (by simp)
  · left; rw [e]; exact rightR_two _ _ (by simp)
  · left; rw [e]; exact rightR_two _ _ (by simp)
  · right; exact e

theorem dec_same {p b : Bs} (hne : p ≠ []) (hw : (Lib.decodeL (p ++ b)).2 ≤ p.length) : Lib.decodeL p = Lib.decodeL (p ++ b) := by
  rcases dec_right_or (p ++ b) with h | h
  · exact dec_prefix hne h hw
  · rcases dec_right_or p with h2 | h2
    · exact (dec_extend hne h2).symm
    · rw [h, h2]

theorem Border.zero (l : Bs) : Border l 0 := ⟨[], Cut.zero l⟩
theorem Border.drop {l : Bs} {q p : Nat} (hq : Border l q) (hp : Border l p) (h : q ≤ p) : Border (l.drop q) (p - q) := by
  obtain ⟨a, ha⟩ := hq
  obtain ⟨b, hb⟩ := hp
  obtain ⟨c, hbc, hc, hs⟩ := ha.unique hb h
  refine ⟨c, ?_, ?_, ?_⟩
  · have := hb.1; simp; omega
  · rw [List.drop_drop, show q + (p - q) = p from by omega]; exact hc
  · omega

/-- Where a border lies between two texts, their characters are those of each. -/
theorem tk_append : ∀ (n : Nat) (a b : Bs), a.length ≤ n → Border (a ++ b) a.length → tk (a ++ b) = tk a ++ tk b
  | 0, a, b, h, _ => by
    have : a = [] := List.length_eq_zero_iff.1 (by omega)
    subst this
    simp [tk_nil]
  | n + 1, a, b, h, hb => by
    by_cases ha : a = []
    · subst ha; simp [tk_nil]
    · have hl : 1 ≤ a.length := by cases a; contradiction; simp
      have hne : a ++ b ≠ [] := List.append_ne_nil_of_left_ne_nil ha _
      have hw1 := (wid_bounds (a ++ b)).1
      have hw : (Lib.decodeL (a ++ b)).2 ≤ a.length := by
        rcases Nat.lt_or_ge a.length (Lib.decodeL (a ++ b)).2 with h2 | h2
        · exact absurd hb (not_border_within (Border.zero _) (by omega) (by simpa using h2) (by simp; omega))
        · exact h2
      have hd := dec_same ha hw
      have hst := (Cut.zero (a ++ b)).step (by simp; omega)
      rw [List.drop_zero, Nat.zero_add] at hst
      have hB := Border.drop ⟨_, hst⟩ hb hw
      rw [tk_cons _ hne, tk_cons a ha, hd]
      have e : (a ++ b).drop (Lib.decodeL (a ++ b)).2 = a.drop (Lib.decodeL (a ++ b)).2 ++ b := List.drop_append_of_le_length hw
      rw [e] at hB ⊢
      have := tk_append n (a.drop (Lib.decodeL (a ++ b)).2) b (by simp; omega) (by simpa using hB)
      rw [this]
      rfl

/-- Bytes that follow are wrong ones, each by itself. -/
theorem tk_fol : ∀ (n : Nat) (l : Bs), l.length = n → (∀ i, i < n → Fol (by' l i)) → tk l = List.replicate n (65533, 1)
  | 0, l, h, _ => by
    have : l = [] := List.length_eq_zero_iff.1 h
    subst this; rfl
  | n + 1, l, h, hf => by
    have hne : l ≠ [] := by intro e; rw [e] at h; cases h
    have hd := dec_fol l (hf 0 (by omega))
    rw [tk_cons l hne, hd, List.replicate_succ]
    congr 1
    exact tk_fol n (l.drop 1) (by simp; omega) (fun i hi => by rw [by_drop]; exact hf (1 + i) (by omega))

/-- A proper beginning by itself: wrong bytes. -/
theorem tk_proper {p : Bs} (h : properB p = true) : tk p = List.replicate p.length (65533, 1) := by
  have hf := proper_full h
  have hn := not_full hf.2.1 hf.1
  have hne : p ≠ [] := by intro e; rw [e] at hf; simp at hf
  have hd : Lib.decodeL p = (65533, 1) := by
    rcases dec_right_or p with h2 | h2
    · have := right_full hne h2; rw [hf.1] at this; cases this
    · exact h2
  obtain ⟨m, hm⟩ : ∃ m, p.length = m + 1 := ⟨p.length - 1, by omega⟩
  rw [tk_cons p hne, hd, hm, List.replicate_succ]
  congr 1
  refine tk_fol m (p.drop 1) (by simp; omega) (fun i hi => ?_)
  rw [by_drop]
  exact hn.2.2.2.1 (1 + i) (by omega) (by omega) (by omega)

/-- the pending bytes, and how many of the next close them -/
def pendP (a : Bs) : Bs := tailOf a (pendN a)
def closK (a b : Bs) : Nat := closN (pendP a) b

theorem pendP_len (a : Bs) : (pendP a).length = pendN a := tail_len (pend_le a).2
theorem pendP_proper (a : Bs) (h : pendN a ≠ 0) : properB (pendP a) = true := by
  have hp : ∀ k, pendN a = k → k ≠ 0 → properB (tailOf a k) = true := by
    intro k hk h0
    unfold pendN at hk
    split at hk
    · rename_i hh; subst hk; exact hh.2
    · split at hk
      · rename_i hh; subst hk; exact hh.2
      · split at hk
        · rename_i hh; subst hk; exact hh.2
        · exact absurd hk.symm h0
  exact hp _ rfl h
theorem take_pendP (a : Bs) : a.take (a.length - pendN a) ++ pendP a = a := List.take_append_drop _ _

theorem closK_proper {a b : Bs} (h : closK a b ≠ 0) : properB (pendP a) = true ∧ fB (pendP a ++ b.take 4) = true ∧ fW (pendP a ++ b.take 4) = pendN a + closK a b := by
  unfold closK closN at h ⊢
  split at h
  · rename_i hh
    have := proper_longer hh.1 hh.2
    rw [if_pos hh]
    refine ⟨hh.1, hh.2, ?_⟩
    rw [pendP_len] at this ⊢
    omega
  · exact absurd rfl h

theorem dec_whole {a b : Bs} (h : closK a b ≠ 0) : (Lib.decodeL (pendP a ++ b)).2 = pendN a + closK a b ∧ rightR (Lib.decodeL (pendP a ++ b)).1 (Lib.decodeL (pendP a ++ b)).2 = true := by
  obtain ⟨h1, h2, h3⟩ := closK_proper h
  obtain ⟨e0, e1, e2⟩ := fB_ne h2
  have hx := dec_extend (b := b.drop 4) e0 e1
  rw [List.append_assoc, List.take_append_drop] at hx
  rw [hx, ← e2, h3]
  exact ⟨rfl, by rw [← h3, e2]; exact e1⟩

/-- Closed: a character lies over the seam. -/
theorem seam_closed {a b : Bs} (h : closK a b ≠ 0) :
    ¬ Border (a ++ b) a.length ∧
    tk (a ++ b) = tk (a.take (a.length - pendN a)) ++ (Lib.decodeL (pendP a ++ b)) :: tk (b.drop (closK a b)) ∧
    tk a = tk (a.take (a.length - pendN a)) ++ List.replicate (pendN a) (65533, 1) ∧
    tk b = List.replicate (closK a b) (65533, 1) ++ tk (b.drop (closK a b)) ∧ closK a b ≤ b.length := by
  obtain ⟨hpr, hfb, hfw⟩ := closK_proper h
  obtain ⟨hw, hr⟩ := dec_whole h
  have hpf := proper_full hpr
  have hnf := not_full hpf.2.1 hpf.1
  have hpl := pendP_len a
  have hle := pend_le a
  have hcb := closN_bounds (pendP a) b
  have hsplit := take_pendP a
  have ht : (a.take (a.length - pendN a)).length = a.length - pendN a := by simp
  have hne : pendP a ++ b ≠ [] := by
    intro e; have := congrArg List.length e; have h9 := hpf.2.1; rw [List.length_append] at this; simp at this; rw [this.1] at h9; simp at h9
  have hbyA : by' a (a.length - pendN a) = by' (pendP a) 0 := by unfold pendP tailOf; rw [by_drop, Nat.add_zero]
  have hn1 : 1 ≤ pendN a := by rw [← hpl]; exact hpf.2.1
  have hbyAB : by' (a ++ b) (a.length - pendN a) = by' (pendP a) 0 := by rw [by_append_left _ _ _ (by omega), hbyA]
  have hB1 : Border (a ++ b) (a.length - pendN a) := border_nofol _ _ (by simp; omega) (by rw [hbyAB]; exact hnf.1)
  have hB2 : Border a (a.length - pendN a) := border_nofol _ _ (by omega) (by rw [hbyA]; exact hnf.1)
  have hdr : (a ++ b).drop (a.length - pendN a) = pendP a ++ b := by rw [List.drop_append_of_le_length (by omega)]; rfl
  have htkp := tk_proper hpr
  rw [hpl] at htkp
  refine ⟨?_, ?_, ?_, ?_, hcb.2⟩
  · exact not_border_within hB1 (by omega) (by rw [hdr, hw]; omega) (by simp; omega)
  · have e : a ++ b = a.take (a.length - pendN a) ++ (pendP a ++ b) := by rw [← List.append_assoc, hsplit]
    have h1 := tk_append _ (a.take (a.length - pendN a)) (pendP a ++ b) (Nat.le_refl _) (by rw [← e, ht]; exact hB1)
    rw [← e] at h1
    rw [h1, tk_cons _ hne, hw]
    have e2 : (pendP a ++ b).drop (pendN a + closK a b) = b.drop (closK a b) := by rw [← hpl, List.drop_append, List.drop_of_length_le (by omega)]; simp
    rw [e2]
  · have h1 := tk_append _ (a.take (a.length - pendN a)) (pendP a) (Nat.le_refl _) (by rw [hsplit, ht]; exact hB2)
    rw [hsplit] at h1
    rw [h1, htkp]
  · have hfol : ∀ i, i < closK a b → Fol (by' b i) := by
      intro i hi
      have := wid_fol (pendP a ++ b) (pendN a + i) (by omega) (by rw [hw]; omega)
      rwa [← hpl, by_append_right] at this
    have hBk : Border b (closK a b) := border_run (Border.zero b) _ (Nat.zero_le _) hcb.2 (fun i _ h2 => hfol i h2)
    have htl : (b.take (closK a b)).length = closK a b := by rw [List.length_take]; exact Nat.min_eq_left hcb.2
    have h1 := tk_append _ (b.take (closK a b)) (b.drop (closK a b)) (Nat.le_refl _) (by rw [List.take_append_drop, htl]; exact hBk)
    rw [List.take_append_drop] at h1
    rw [h1, tk_fol (closK a b) (b.take (closK a b)) htl (fun i hi => by rw [by_take _ _ _ hi]; exact hfol i hi)]

/-- Not closed: a border lies at the seam. -/
theorem seam_open {a b : Bs} (h : closK a b = 0) : Border (a ++ b) a.length := by
  obtain ⟨done, q, hc, hq, hcase⟩ := Cut.find (a ++ b) a.length (by simp)
  rcases hcase with ⟨hl, hw⟩ | ⟨h1, h2⟩
  · by_cases e : q = a.length
    · subst e; exact ⟨done, hc⟩
    · exfalso
      -- the character at q lies over the seam
      have hj : q < a.length := by omega
      have hdr : (a ++ b).drop q = a.drop q ++ b := List.drop_append_of_le_length (by omega)
      rw [hdr] at hw
      have h4 := (wid_bounds (a.drop q ++ b)).2
      have hdl : (a.drop q).length = a.length - q := by simp
      have hr : rightR (Lib.decodeL (a.drop q ++ b)).1 (Lib.decodeL (a.drop q ++ b)).2 = true := by
        rcases dec_right_or (a.drop q ++ b) with h2 | h2
        · exact h2
        · rw [h2] at hw; simp at hw; omega
      have hj3 : a.length - q ≤ 3 := by omega
      have hne : a.drop q ≠ [] := by intro e; rw [e] at hdl; simp at hdl; omega
      have hne2 : a.drop q ++ b ≠ [] := List.append_ne_nil_of_left_ne_nil hne _
      have hwl := wid_le _ hne2
      -- the whole sequence
      obtain ⟨w, hwd⟩ : ∃ w, w = (Lib.decodeL (a.drop q ++ b)).2 := ⟨_, rfl⟩
      rw [← hwd] at hw h4 hwl
      have hlen : (a.drop q ++ b.take (w - (a.length - q))).length = w := by
        simp at hwl; simp; omega
      have hpre : a.drop q ++ b = (a.drop q ++ b.take (w - (a.length - q))) ++ b.drop (w - (a.length - q)) := by rw [List.append_assoc, List.take_append_drop]
      have hne3 : a.drop q ++ b.take (w - (a.length - q)) ≠ [] := List.append_ne_nil_of_left_ne_nil hne _
      have hds := dec_prefix (p := a.drop q ++ b.take (w - (a.length - q))) (b := b.drop (w - (a.length - q))) hne3 (by rw [← hpre]; exact hr) (by rw [← hpre, ← hwd, hlen]; exact Nat.le_refl _)
      rw [← hpre] at hds
      have hseq : seqB (a.drop q ++ b.take (w - (a.length - q))) = true := by
        rw [seqB_iff, hds]
        exact ⟨hne3, hr, by rw [← hwd, hlen]⟩
      have htk : b.take (w - (a.length - q)) ≠ [] := by
        intro e; rw [e, List.append_nil] at hlen; rw [hdl] at hlen; omega
      have hnf := part_notfull hne htk hseq
      have hnf2 := not_full (by rw [hdl]; omega) hnf
      have hpn : pendN a = a.length - q := by
        have := pend_back (l := a) (k := a.length - q) (by omega) hj3 (by omega) (fun j h1 h2 => by
          have := hnf2.2.2.2.1 (a.length - q - j) (by omega) (by rw [hdl]; omega) (by omega)
          rwa [by_drop, show q + (a.length - q - j) = a.length - j from by omega] at this) (by
          have := hnf2.1
          rwa [by_drop, Nat.add_zero, show q = a.length - (a.length - q) from by omega] at this)
        have et : tailOf a (a.length - q) = a.drop q := by unfold tailOf; rw [show a.length - (a.length - q) = q from by omega]
        rw [et, hnf] at this
        simpa using this
      have hpp : pendP a = a.drop q := by unfold pendP tailOf; rw [hpn, show a.length - (a.length - q) = q from by omega]
      have hpr : properB (a.drop q) = true := proper_of (by rw [hdl]; omega) hnf
      -- so it is closed
      have hpre4 : a.drop q ++ b = (a.drop q ++ b.take 4) ++ b.drop 4 := by rw [List.append_assoc, List.take_append_drop]
      have hne4 : a.drop q ++ b.take 4 ≠ [] := List.append_ne_nil_of_left_ne_nil hne _
      have hds4 := dec_prefix (p := a.drop q ++ b.take 4) (b := b.drop 4) hne4 (by rw [← hpre4]; exact hr) (by
        rw [← hpre4, ← hwd]; simp at hwl; simp; omega)
      rw [← hpre4] at hds4
      have hfb := fB_of hne4 (by rw [hds4]; exact hr)
      have hlong := proper_longer hpr hfb.1
      unfold closK closN at h
      rw [hpp, if_pos ⟨hpr, hfb.1⟩] at h
      omega
  · exact h2 ▸ ⟨done, hc⟩

theorem seam_border (a b : Bs) : Border (a ++ b) a.length ↔ closK a b = 0 := by
  constructor
  · intro h
    by_cases e : closK a b = 0
    · exact e
    · exact absurd h (seam_closed e).1
  · exact seam_open

/-- How many characters there are together. -/
theorem seam_count (a b : Bs) : (closK a b = 0 → countN (a ++ b) = countN a + countN b) ∧ (closK a b ≠ 0 → countN (a ++ b) + pendN a + closK a b = countN a + countN b + 1) := by
  constructor
  · intro h
    unfold countN
    rw [tk_append _ a b (Nat.le_refl _) (seam_open h)]; simp
  · intro h
    obtain ⟨_, h2, h3, h4, _⟩ := seam_closed h
    have e2 := congrArg List.length h2
    have e3 := congrArg List.length h3
    have e4 := congrArg List.length h4
    simp at e2 e3 e4
    unfold countN
    omega
end Go.Proofs.YticonolnagcakaaDoor

namespace Go.Proofs.YticonolnagcakaaDoor
open Go.RowKit
attribute [local go_sem] Oper.semAt_some

/-- the first k values -/
def ups {α : Type} (f : Nat → α) (k : Nat) : List α := (List.range k).map f
theorem ups_succ {α : Type} (f : Nat → α) (k : Nat) : ups f (k + 1) = ups f k ++ [f k] := by simp [ups, List.range_succ]
theorem ups_length {α : Type} (f : Nat → α) (k : Nat) : (ups f k).length = k := by simp [ups]
theorem ups_get {α : Type} (f : Nat → α) (k i : Nat) (h : i < k) : (ups f k)[i]? = some (f i) := by simp [ups, h]
/-- a list that is the first k values is so at its own length; each of its last values is known -/
theorem ups_last {α : Type} {f : Nat → α} {k : Nat} {pre : List α} {x : α} (h : pre ++ [x] = ups f k) : k = pre.length + 1 ∧ x = f pre.length ∧ pre = ups f pre.length := by
  have hl := congrArg List.length h
  simp [ups_length] at hl
  subst hl
  rw [ups_succ] at h
  obtain ⟨h1, h2⟩ := List.append_inj' h rfl
  exact ⟨rfl, by simpa using h2, h1⟩

/-- what a round keeps: walks' objects, and what lay below -/
def KpB (B : Nat) (W W' : World) : Prop := KeepsWalks W W' ∧ Below B W W'
theorem kpB_t {B : Nat} {X Y Z : World} (h : KpB B X Y) (k : KpB B Y Z) : KpB B X Z := ⟨h.1.trans k.1, h.2.trans k.2⟩
theorem kpB_b {B : Nat} {w : World} (hB : B ≤ w.heap.size) (W : World) (l : Nat) (o o' : Obj) (hl : w.heap.size ≤ l) (h : W.heap[l]? = some o) (hc : o.isCells = false) (hw : o.isWalk = false) : KpB B W (W.putObj l o') :=
  ⟨walksK_b W l o o' hl h hc hw, belowK_b hB W l o o' hl h hc hw⟩

theorem Below.grow {w w' : World} (h : Below w.heap.size w w') : w.grownBy w' none := ⟨h.os, h.tape, h.output, h.size, fun k hk _ => h.block k hk⟩

/-- place and rune of a character -/
def allF (l : Bs) (k : Nat) : Nat × Nat := (atN l k, ((tk l)[k]?.getD (0, 0)).1)
/-- .. from the last one on -/
def backF (l : Bs) (k : Nat) : Nat × Nat := allF l (countN l - 1 - k)
def encP (x : Nat × Nat) : Array Value := #[.int .i64 (x.1 : Int), .int .i32 (x.2 : Int)]

theorem Cut.get {l : Bs} {done : List (Nat × Nat)} {p : Nat} (h : Cut l done p) (hp : p < l.length) : (tk l)[done.length]?.getD (0, 0) = Lib.decodeL (l.drop p) := by
  have hne : l.drop p ≠ [] := by intro e; have := congrArg List.length e; simp at this; omega
  rw [h.2.1, tk_cons _ hne]
  simp
theorem Cut.allF {l : Bs} {done : List (Nat × Nat)} {p : Nat} (h : Cut l done p) (hp : p < l.length) : allF l done.length = (p, (Lib.decodeL (l.drop p)).1) := by
  unfold Go.Proofs.YticonolnagcakaaDoor.allF
  rw [h.at', h.get hp]

/-! ### Back -/
theorem atN_zero (l : Bs) : atN l 0 = 0 := by simp [atN, wsum]
theorem atN_succ (l : Bs) (m : Nat) (h : m < countN l) : atN l (m + 1) = atN l m + ((tk l)[m]?.getD (0, 0)).2 := by
  have h1 : m < (tk l).length := h
  unfold atN
  rw [List.take_succ_eq_append_getElem h1, wsum_append, wsum_cons, wsum_nil, List.getElem?_eq_getElem h1]
  rfl
theorem took_at (l : Bs) (m : Nat) (h : m ≤ countN l) : tk (l.take (atN l m)) = (tk l).take m := by
  have hc := cut_at l m h
  have hl : (l.take (atN l m)).length = atN l m := by rw [List.length_take]; exact Nat.min_eq_left hc.1
  have e := tk_append _ (l.take (atN l m)) (l.drop (atN l m)) (Nat.le_refl _) (by rw [List.take_append_drop, hl]; exact ⟨_, hc⟩)
  rw [List.take_append_drop] at e
  have h2 : tk (l.take (atN l m)) ++ tk (l.drop (atN l m)) = (tk l).take m ++ tk (l.drop (atN l m)) := e.symm.trans hc.2.1
  exact List.append_cancel_right h2
theorem last_at_take (l : Bs) (m : Nat) (h : m < countN l) : lastC (l.take (atN l (m + 1))) = (tk l)[m]?.getD (0, 0) := by
  have h1 : m < (tk l).length := h
  unfold lastC
  rw [took_at l (m + 1) h, List.take_succ_eq_append_getElem h1, List.getLast?_append, List.getElem?_eq_getElem h1]
  simp
theorem toList_len (R : ByteArray) : R.toList.length = R.size := by
  rw [ByteArray.toList_eq]
  exact Array.length_toList
theorem notEmpty (R : ByteArray) (h : 1 ≤ R.size) : R.toList.isEmpty = false := by
  rw [← toList_len] at h
  cases he : R.toList
  · rw [he] at h; simp at h
  · rfl
theorem isEmpty' (R : ByteArray) (h : R.size = 0) : R.toList.isEmpty = true := by
  rw [← toList_len] at h
  rw [List.length_eq_zero_iff.1 h]
  rfl
def lenV : Value → Nat
  | .string s => s.size
  | _ => 0

/-! ### Wrong -/
/-- what a round keeps: and the box that is read -/
def KpW (C B : Nat) (W W' : World) : Prop := KpB B W W' ∧ W'.heap[C]? = W.heap[C]?
theorem kpW_t {C B : Nat} {X Y Z : World} (h : KpW C B X Y) (k : KpW C B Y Z) : KpW C B X Z := ⟨kpB_t h.1 k.1, k.2.trans h.2⟩
theorem kpW_b {C B : Nat} {w : World} (hC : C < w.heap.size) (hB : B ≤ w.heap.size) (W : World) (l : Nat) (o o' : Obj) (hl : w.heap.size ≤ l) (h : W.heap[l]? = some o) (hc : o.isCells = false) (hw : o.isWalk = false) : KpW C B W (W.putObj l o') :=
  ⟨kpB_b hB W l o o' hl h hc hw, World.putObj_heap_other (by omega)⟩
def isWrong (l : Bs) (k : Nat) : Bool := !(rightR ((tk l)[k]?.getD (0, 0)).1 ((tk l)[k]?.getD (0, 0)).2)
/-- the places of wrong bytes among the first k characters -/
def wrTo (l : Bs) (k : Nat) : List Nat := ((List.range k).filter (isWrong l)).map (atN l)
theorem wrTo_no (l : Bs) (k : Nat) (h : isWrong l k = false) : wrTo l (k + 1) = wrTo l k := by simp [wrTo, List.range_succ, h]
theorem wrTo_yes (l : Bs) (k : Nat) (h : isWrong l k = true) : wrTo l (k + 1) = wrTo l k ++ [atN l k] := by simp [wrTo, List.range_succ, h]
theorem wrTo_le (l : Bs) (k : Nat) : (wrTo l k).length ≤ k := by
  have := List.length_filter_le (isWrong l) (List.range k)
  simpa [wrTo] using this
theorem cellKeep {W W' : World} {g i : Nat} {v : Value} (h : W.cell? ⟨g, i, none⟩ = some v) (hb : Below W.heap.size W W') : W'.cell? ⟨g, i, none⟩ = some v :=
  (hb.cell (p := ⟨g, i, none⟩) (World.block_lt_of_cell? W _ h)).trans h
def encW (x : Nat) : Array Value := #[.int .i64 (x : Int)]

end Go.Proofs.YticonolnagcakaaDoor

namespace Go.Proofs.YticonolnagcakaaDoor
open Go.RowKit

theorem aw1 (w : World) (hT : Tabs w) : Calls Tryd.prog 40 #[.string ⟨#[195, 169, 65]⟩] w fun e w' => e = .returned (.tuple #[.int .i32 233, .int .i64 2, .bool true]) ∧ Below w.heap.size w w' := by
  have h := first_any ⟨#[195, 169, 65]⟩ w hT
  have e1 : fR (bs ⟨#[195, 169, 65]⟩) = 233 := by decide +kernel
  have e2 : fW (bs ⟨#[195, 169, 65]⟩) = 2 := by decide +kernel
  have e3 : fB (bs ⟨#[195, 169, 65]⟩) = true := by decide +kernel
  rw [e1, e2, e3] at h
  exact h
theorem aw4 (w : World) : Calls Tryd.prog 22 #[.string ⟨#[195, 169, 65, 255]⟩] w fun e w' => e = .returned (.int .i64 3) ∧ Below w.heap.size w w' := by
  have h := count_any ⟨#[195, 169, 65, 255]⟩ (by decide) w
  have e1 : countN (bs ⟨#[195, 169, 65, 255]⟩) = 3 := by decide +kernel
  rw [e1] at h
  exact h
theorem closN_nil (b : Bs) : closN [] b = 0 := by
  unfold closN
  rw [if_neg]
  rintro ⟨h, _⟩
  rw [properB_short (by simp)] at h
  cases h

end Go.Proofs.YticonolnagcakaaDoor

namespace Go.Proofs.YticonolnagcakaaDoor
open Go.RowKit

theorem of_find (l : Bs) (q : Nat) (hq : q < l.length) : ∃ n, n < countN l ∧ ofT (tk l) q = n ∧ atN l n ≤ q ∧ q < atN l (n + 1) ∧ q - atN l n ≤ 3 ∧ (atN l n = q ↔ Border l q) := by
  obtain ⟨a, p, ha, hp, h⟩ := Cut.find l q (by omega)
  rcases h with ⟨hl, hw⟩ | ⟨h, _⟩
  · have hst := (ha.step hl).at'
    rw [List.length_append, List.length_singleton] at hst
    have h4 := (wid_bounds (l.drop p)).2
    refine ⟨a.length, ha.lt_count hl, ofT_cut ha hl hp hw, by rw [ha.at']; exact hp, by rw [hst]; exact hw, by rw [ha.at']; omega, ?_⟩
    rw [ha.at']
    constructor
    · rintro rfl; exact ⟨a, ha⟩
    · intro hb
      rcases Nat.lt_or_ge p q with h1 | h1
      · exact absurd hb (not_border_within ⟨a, ha⟩ h1 hw hl)
      · omega
  · omega

theorem atN_lt_len {l : Bs} {n : Nat} (h : n < countN l) : atN l n < l.length := by
  have hc := cut_at l n (by omega)
  rcases Nat.lt_or_ge (atN l n) l.length with h2 | h2
  · exact h2
  · have h3 := (hc.end' (by omega)).1
    have h4 := congrArg List.length h3
    simp at h4; unfold countN at h; omega

theorem of_at (l : Bs) (n : Nat) (h : n ≤ countN l) : atN l n ≤ l.length ∧ ofT (tk l) (atN l n) = n := by
  have hc := cut_at l n h
  refine ⟨hc.1, ?_⟩
  by_cases e : n = countN l
  · rw [e, atN_full, ofT_end]
  · have hlt := atN_lt_len (l := l) (n := n) (by omega)
    have := ofT_cut hc hlt (Nat.le_refl _) (by have := (wid_bounds (l.drop (atN l n))).1; omega)
    rw [this]; unfold countN at h; simp; omega

theorem c_count (s : ByteArray) (hs : s.size ≤ 140737488351232) (n : Nat) (h : countN (bs s) = n) (w : World) :
    Calls Tryd.prog 22 #[.string s] w fun r w' => r = .returned (.int .i64 n) ∧ Below w.heap.size w w' := by
  have := count_any s hs w
  rwa [h] at this

end Go.Proofs.YticonolnagcakaaDoor

namespace Go.Proofs.YticonolnagcakaaDoor
open Go.RowKit

/-- The class of a rune: 0 blank, 1 word, 2 other. -/
def cls (r : Int) : Nat := if blankB r = true then 0 else if wordB r = true then 1 else 2
def clsAt (l : Bs) (i : Nat) : Nat := cls (((tk l)[i]?.getD (0, 0)).1 : Nat)
/-- the character number i is a stop -/
def stopAt (l : Bs) (i : Nat) : Bool := clsAt l i != 0 && (i == 0 || clsAt l (i - 1) != clsAt l i)

theorem atN_lt (l : Bs) {i j : Nat} (h : i < j) (hj : j ≤ countN l) : atN l i < atN l j := by
  induction j with
  | zero => omega
  | succ j ih =>
    have hs := atN_succ l j (by omega)
    have hw := (tk_wid l ((tk l)[j]?.getD (0, 0)) (by rw [List.getElem?_eq_getElem (show j < (tk l).length from hj)]; exact List.getElem_mem _)).1
    by_cases e : i = j
    · subst e; omega
    · have := ih (by omega) (by omega); omega
theorem atN_lt_iff (l : Bs) {i j : Nat} (hi : i ≤ countN l) (hj : j ≤ countN l) : atN l i < atN l j ↔ i < j := by
  constructor
  · intro h
    rcases Nat.lt_or_ge i j with h1 | h1
    · exact h1
    · rcases Nat.lt_or_ge j i with h2 | h2
      · have := atN_lt l h2 hi; omega
      · obtain rfl : i = j := by omega
        omega
  · exact fun h => atN_lt l h hj

/-- The next stop behind the character number m. -/
def NextIs (l : Bs) (m v : Nat) : Prop :=
  (∃ k, m < k ∧ k < countN l ∧ stopAt l k = true ∧ (∀ i, m < i → i < k → stopAt l i = false) ∧ v = atN l k) ∨ ((∀ i, m < i → i < countN l → stopAt l i = false) ∧ v = l.length)
def nextV (l : Bs) (m : Nat) : Nat := match (List.range (countN l)).find? (fun i => decide (m < i) && stopAt l i) with | some k => atN l k | none => l.length
theorem nextV_of {l : Bs} {m v : Nat} (h : NextIs l m v) : nextV l m = v := by
  unfold nextV
  rcases h with ⟨k, h1, h2, h3, h4, rfl⟩ | ⟨h1, rfl⟩
  · have : (List.range (countN l)).find? (fun i => decide (m < i) && stopAt l i) = some k := by
      rw [List.find?_range_eq_some]
      refine ⟨by simp [h1, h3], by simp [h2], fun j hj => ?_⟩
      by_cases hm : m < j
      · simp [h4 j hm hj]
      · simp [hm]
    rw [this]
  · have : (List.range (countN l)).find? (fun i => decide (m < i) && stopAt l i) = none := by
      rw [List.find?_eq_none]
      intro i hi
      have hi := List.mem_range.1 hi
      by_cases hm : m < i
      · simp [h1 i hm hi]
      · simp [hm]
    rw [this]

/-- The stop ahead of the character number m. -/
def BackIs (l : Bs) (m v : Nat) : Prop :=
  (∃ k, k < m ∧ stopAt l k = true ∧ (∀ i, k < i → i < m → stopAt l i = false) ∧ v = atN l k) ∨ ((∀ i, i < m → stopAt l i = false) ∧ v = 0)
def backV (l : Bs) : Nat → Nat
  | 0 => 0
  | m + 1 => if stopAt l m = true then atN l m else backV l m
theorem backV_of {l : Bs} {m v : Nat} (h : BackIs l m v) : backV l m = v := by
  induction m with
  | zero =>
    rcases h with ⟨k, h1, _⟩ | ⟨_, rfl⟩
    · omega
    · rfl
  | succ m ih =>
    unfold backV
    rcases h with ⟨k, h1, h2, h3, rfl⟩ | ⟨h1, rfl⟩
    · by_cases e : k = m
      · subst e; rw [if_pos h2]
      · rw [if_neg (by rw [h3 m (by omega) (by omega)]; simp)]
        exact ih (.inl ⟨k, by omega, h2, fun i hi hj => h3 i hi (by omega), rfl⟩)
    · rw [if_neg (by rw [h1 m (by omega)]; simp)]
      exact ih (.inr ⟨fun i hi => h1 i (by omega), rfl⟩)

theorem find_same {α : Type} {p q : α → Bool} {l : List α} (h : ∀ x ∈ l, p x = q x) : l.find? p = l.find? q := by
  induction l with
  | nil => rfl
  | cons a l ih => rw [List.find?_cons, List.find?_cons, h a (by simp), ih (fun x hx => h x (by simp [hx]))]
/-- All stops, and the end. -/
def stopsL (l : Bs) : List Nat := ((List.range (countN l)).filter (stopAt l)).map (atN l) ++ [l.length]
theorem stops_next (l : Bs) (m : Nat) (hm : m ≤ countN l) : ((stopsL l).find? (fun x => decide (atN l m < x))).getD l.length = nextV l m := by
  unfold stopsL nextV
  rw [List.find?_append, List.find?_map, List.find?_filter]
  rw [find_same (q := fun i => decide (m < i) && stopAt l i) (fun i hi => by
    have hi := List.mem_range.1 hi
    have := atN_lt_iff l hm (show i ≤ countN l by omega)
    by_cases hs : stopAt l i = true <;> simp [hs, this])]
  cases (List.range (countN l)).find? (fun i => decide (m < i) && stopAt l i) with
  | some k => rfl
  | none =>
    simp only [Option.map_none, Option.none_or, List.find?_cons, List.find?_nil]
    split <;> rfl
theorem find_all {α : Type} {p : α → Bool} {l : List α} (h : ∀ x ∈ l, p x = true) : l.find? p = l.head? := by
  cases l with
  | nil => rfl
  | cons a l => rw [List.find?_cons, h a (by simp)]; rfl
theorem backV_head (l : Bs) (m : Nat) : (((List.range m).filter (stopAt l)).map (atN l)).reverse.head?.getD 0 = backV l m := by
  induction m with
  | zero => rfl
  | succ m ih =>
    rw [List.range_succ, List.filter_append, List.map_append, List.reverse_append]
    unfold backV
    by_cases hs : stopAt l m = true
    · simp [hs]
    · have hs' : stopAt l m = false := by simpa using hs
      simp only [hs', List.filter_cons, List.filter_nil, List.map_nil, List.reverse_nil, Bool.false_eq_true, if_false, List.nil_append]
      exact ih
/-- The last stop ahead of the character number m, looked for from the end. -/
theorem stops_back (l : Bs) (m : Nat) (hm : m ≤ countN l) : ((stopsL l).reverse.find? (fun x => decide (x < atN l m))).getD 0 = backV l m := by
  have hlen : ¬ l.length < atN l m := by have := (cut_at l m hm).1; omega
  have step : ∀ n, m ≤ n → n ≤ countN l → ((((List.range n).filter (stopAt l)).map (atN l)).reverse.find? (fun x => decide (x < atN l m))).getD 0 = backV l m := by
    intro n
    induction n with
    | zero => intro h _; obtain rfl : m = 0 := by omega
              rfl
    | succ n ih =>
      intro h hn
      by_cases e : m = n + 1
      · subst e
        rw [find_all, backV_head]
        intro x hx
        simp only [List.mem_reverse, List.mem_map, List.mem_filter, List.mem_range] at hx
        obtain ⟨i, ⟨hi, _⟩, rfl⟩ := hx
        exact decide_eq_true (atN_lt l hi hm)
      · have hmn : m ≤ n := by omega
        have h0 : (([n].filter (stopAt l)).map (atN l)).reverse.find? (fun x => decide (x < atN l m)) = none := by
          by_cases hs : stopAt l n = true
          · have h2 : ¬ atN l n < atN l m := by rw [atN_lt_iff l (by omega) hm]; omega
            simp [hs, h2]
          · simp [hs]
        rw [List.range_succ, List.filter_append, List.map_append, List.reverse_append, List.find?_append, h0, Option.none_or]
        exact ih hmn (by omega)
  unfold stopsL
  rw [List.reverse_append, List.find?_append]
  have h0 : [l.length].reverse.find? (fun x => decide (x < atN l m)) = none := by simp [hlen]
  rw [h0, Option.none_or]
  exact step (countN l) hm (Nat.le_refl _)
end Go.Proofs.YticonolnagcakaaDoor

namespace Go.Proofs.YticonolnagcakaaDoor
open Go.RowKit

/-- One more rune: the columns behind it. -/
def colStep (tab f n : Nat) (r : Int) : Nat := if r = 9 then n + (tab - (f + n) % tab) else n + widthN r
/-- The columns of the first k characters. -/
def colTo (l : Bs) (tab f : Nat) : Nat → Nat
  | 0 => 0
  | k + 1 => colStep tab f (colTo l tab f k) (((tk l)[k]?.getD (0, 0)).1 : Nat)
theorem width_le (r : Int) : widthN r ≤ 2 := by
  unfold widthN
  split
  · omega
  · split <;> omega
theorem colStep_le (tab f n : Nat) (r : Int) (h : tab ≤ 16) : colStep tab f n r ≤ n + 16 := by
  unfold colStep
  have := width_le r
  split <;> omega
theorem colTo_le (l : Bs) (tab f k : Nat) (h : tab ≤ 16) : colTo l tab f k ≤ 16 * k := by
  induction k with
  | zero => simp [colTo]
  | succ k ih =>
    have := colStep_le tab f (colTo l tab f k) (((tk l)[k]?.getD (0, 0)).1 : Nat) h
    simp only [colTo]
    omega
/-- The tab and the column, as they are brought in. -/
def tabN (t : Int) : Nat := (min (max t 1) 16).toNat
def fromN (f t : Int) : Nat := (max f 0).toNat % tabN t
theorem tabN_bounds (t : Int) : 1 ≤ tabN t ∧ tabN t ≤ 16 := by unfold tabN; omega
def colsV (l : Bs) (f t : Int) : Nat := colTo l (tabN t) (fromN f t) (countN l)

/-! ### A place brought into a text -/
def clampN (l : Bs) (c : Int) : Nat := (min (max c 0) (l.length : Int)).toNat
def intoM (l : Bs) (c : Int) : Nat := ofT (tk l) (clampN l c)
theorem into_find (l : Bs) (c : Int) : intoM l c ≤ countN l ∧ atN l (intoM l c) ≤ clampN l c ∧ clampN l c ≤ l.length ∧ Border l (atN l (intoM l c)) ∧ ∀ q, atN l (intoM l c) < q → q ≤ clampN l c → ¬ Border l q := by
  have hc : clampN l c ≤ l.length := by unfold clampN; omega
  unfold intoM
  by_cases h : clampN l c < l.length
  · obtain ⟨n, h1, h2, h3, h4, _, _⟩ := of_find l (clampN l c) h
    rw [h2]
    refine ⟨by omega, h3, hc, ⟨_, cut_at l n (by omega)⟩, fun q hq hq2 hb => ?_⟩
    obtain ⟨n', k1, k2, k3, k4, _, k6⟩ := of_find l q (by omega)
    have e : n' = n := by
      have a1 := (atN_lt_iff l (show n ≤ countN l by omega) (show n' + 1 ≤ countN l by omega)).1 (by omega)
      have a2 := (atN_lt_iff l (show n' ≤ countN l by omega) (show n + 1 ≤ countN l by omega)).1 (by omega)
      omega
    subst e
    have := k6.2 hb
    omega
  · have e : clampN l c = l.length := by omega
    rw [e, ofT_end]
    refine ⟨Nat.le_refl _, by rw [atN_full]; exact Nat.le_refl _, Nat.le_refl _, ⟨_, cut_at l _ (Nat.le_refl _)⟩, fun q hq hq2 => ?_⟩
    rw [atN_full] at hq
    omega
end Go.Proofs.YticonolnagcakaaDoor

namespace Go.Proofs.YticonolnagcakaaDoor
open Go.RowKit

theorem drop_tk (l : Bs) (m : Nat) (hm : m ≤ countN l) : tk (l.drop (atN l m)) = (tk l).drop m := by
  have h := (cut_at l m hm).2.1
  have h2 := congrArg (List.drop m) h
  rw [List.drop_append_of_le_length (by rw [List.length_take]; unfold countN at hm; omega), List.drop_take_self, List.nil_append] at h2
  exact h2.symm
theorem drop_at (l : Bs) (m k : Nat) (hm : m ≤ countN l) : atN l m + atN (l.drop (atN l m)) k = atN l (m + k) := by
  unfold atN
  rw [show wsum ((tk l).take m) = atN l m from rfl, drop_tk l m hm, List.take_add, wsum_append]
  rfl
theorem drop_count (l : Bs) (m : Nat) (hm : m ≤ countN l) : countN (l.drop (atN l m)) = countN l - m := by
  unfold countN
  rw [drop_tk l m hm, List.length_drop]
/-- the class that came last -/
def wasZ (l : Bs) (m k : Nat) : Int := if k = 0 then -1 else (clsAt l (m + k - 1) : Nat)
theorem stop_of {l : Bs} {i : Nat} (hi : 0 < i) : stopAt l i = (clsAt l i != 0 && clsAt l (i - 1) != clsAt l i) := by
  unfold stopAt
  have : (i == 0) = false := beq_eq_false_iff_ne.2 (by omega)
  rw [this, Bool.false_or]

end Go.Proofs.YticonolnagcakaaDoor

namespace Go.Proofs.YticonolnagcakaaDoor
open Go.RowKit

set_option maxHeartbeats 4000000 in
theorem columns_far (s : ByteArray) (hs : s.size ≤ 562949953421312) (f t : Int) (w : World) :
    Calls Tryd.prog 23 #[.string s, .int .i64 f, .int .i64 t] w fun e w' => e = .returned (.int .i64 (colsV (bs s) f t : Nat)) ∧ Below w.heap.size w w' := by
  obtain ⟨T, hT⟩ : ∃ T, tabN t = T := ⟨_, rfl⟩
  obtain ⟨F, hF⟩ : ∃ F, fromN f t = F := ⟨_, rfl⟩
  have hTb := tabN_bounds t
  have e1 : min (max t 1) 16 = (T : Int) := by rw [← hT]; unfold tabN; omega
  rw [hT] at hTb
  obtain ⟨G, hG⟩ : ∃ G, (max f 0).toNat = G := ⟨_, rfl⟩
  have e2 : max f 0 = (G : Int) := by omega
  have hGF : G % T = F := by rw [← hG, ← hT, ← hF]; rfl
  have HGF := Lib.hid hGF
  have hFT : F < T := by rw [← hGF]; exact Nat.mod_lt _ (by omega)
  unfold colsV
  rw [hT, hF]
  obtain ⟨l, hl⟩ : ∃ l, bs s = l := ⟨_, rfl⟩
  rw [hl]
  have HL := Lib.hid hl
  clear hT hF hG hGF hl
  have hT1 : (1 : Int) ≤ (T : Int) := by omega
  have hT16 : (T : Int) ≤ 16 := by omega
  have hT0 : (T : Int) ≠ 0 := by omega
  go_enter Tryd.func23, Tryd.ntmps23
  have e3 : (G : Int) % (T : Int) = (F : Int) := by rw [← HGF.out]; exact (Int.natCast_emod G T).symm
  go_wp2_with fail
  rw [e3]
  have HE := Lib.hid (And.intro e1 (And.intro e2 e3))
  clear e1 e2 e3
  go_loopw [7, 9] (fun n _ wr => ∃ done p, Cut l done p ∧ wr.heap[w.heap.size]? = some (.stringIter s p) ∧ n = .int .i64 (colTo l T F done.length : Nat) ∧ Below w.heap.size w wr) (fun _ _ wr => s.size - wr.iterPos w.heap.size)
  case atStart => exact ⟨[], 0, Cut.zero _, World.iter_heap _ _ _, rfl, al (Below.refl _ _) _⟩
  case round =>
    obtain ⟨done, p, hc, hit, rfl, hb⟩ := hrel
    have hlen : l.length = s.size := by rw [← HL.out, size_bs]
    have hkp := hc.len_le
    have hpl := hc.1
    have hcb := colTo_le l T F done.length hTb.2
    by_cases hp : p < s.size
    · have hp' : p < l.length := by omega
      have hnx := fun ty => Lib.run_next_any_at (P := Tryd.prog) wr w.heap.size s p ty hit hp
      rw [decode_bs, HL.out] at hnx
      have hcs := hc.step hp'
      have hw := (wid_bounds (l.drop p)).1
      have hget := hc.get hp'
      obtain ⟨d, hd⟩ : ∃ d, d = Lib.decodeL (l.drop p) := ⟨_, rfl⟩
      rw [← hd] at hnx hcs hw hget
      obtain ⟨r, n'⟩ := d
      simp only at hnx hw hcs
      have hst : colTo l T F (done.length + 1) = colStep T F (colTo l T F done.length) (r : Int) := by rw [colTo, hget]
      obtain ⟨N, hN⟩ : ∃ N, colTo l T F done.length = N := ⟨_, rfl⟩
      rw [hN] at hst hcb ⊢
      have HWD := Lib.hid (fun w => width_any (r : Int) w)
      obtain ⟨v, hv⟩ : ∃ v, widthN (r : Int) = v := ⟨_, rfl⟩
      have hv2 := width_le (r : Int)
      rw [hv] at HWD hv2
      have HCS := Lib.hid hcs
      have hbi : Below w.heap.size wr (wr.iterAt w.heap.size s (p + n')) := Lib.below_iterAt (Below.refl _ _) (Nat.le_refl _) s (p + n')
      have HIT := Lib.hid (Lib.iterAt_heap wr w.heap.size s p (p + n') hit)
      have HIP := Lib.hid (show wr.iterPos w.heap.size = p from iterPos_of hit)
      have hbV : Below w.heap.size w (wr.iterAt w.heap.size s (p + n')) := hb.trans hbi
      obtain ⟨V, hV⟩ : ∃ V, wr.iterAt w.heap.size s (p + n') = V := ⟨_, rfl⟩
      rw [hV] at hnx HIT hbV
      have hNb : N ≤ 9007199254740992 := by omega
      clear hd hc hit hcs hget hV hbi hb hN hp'
      by_cases h9 : r = 9
      · subst h9
        have hst2 : colTo l T F (done.length + 1) = N + (T - (F + N) % T) := by rw [hst]; unfold colStep; rw [if_pos (show ((9 : Nat) : Int) = 9 from rfl)]
        have hmod : (F + N) % T < T := Nat.mod_lt _ (by omega)
        obtain ⟨Y, hY⟩ : ∃ Y, (F + N) % T = Y := ⟨_, rfl⟩
        have hm : ((F : Int) + (N : Int)) % (T : Int) = (Y : Int) := by rw [← hY]; exact (Int.natCast_emod (F + N) T).symm
        have hm2 : ((F : Int) + (N : Int)).tmod (T : Int) = (Y : Int) := by rw [Int.tmod_eq_emod_of_nonneg (by omega)]; exact hm
        rw [hY] at hst2 hmod
        have HST := Lib.hid (show ((N : Int) + ((T : Int) - (Y : Int))) = ((colTo l T F (done ++ [(9, n')]).length : Nat) : Int) by rw [List.length_append, List.length_singleton, hst2]; omega)
        clear hst hst2 hY hv
        go_wp2_with fail
        go_roundw
        case rel => exact ⟨_, _, HCS.out, HIT.out, congrArg (Value.int .i64) HST.out, hbV⟩
        case measure => rw [iterPos_of HIT.out, HIP.out]; omega
      · have hd' : ((r : Int) == 9) = false := beq_eq_false_iff_ne.2 (by omega)
        have hst2 : colTo l T F (done.length + 1) = N + v := by rw [hst]; unfold colStep; rw [if_neg (by omega), hv]
        have HST := Lib.hid (show ((N : Int) + (v : Int)) = ((colTo l T F (done ++ [(r, n')]).length : Nat) : Int) by rw [List.length_append, List.length_singleton, hst2]; omega)
        clear hst hst2 hv h9
        go_wp2_with (first | (go_at_call 37; (with_reducible refine (HWD.out _).mono ?_); rintro e w2 ⟨rfl, rfl⟩))
        go_roundw
        case rel => exact ⟨_, _, HCS.out, HIT.out, congrArg (Value.int .i64) HST.out, hbV⟩
        case measure => rw [iterPos_of HIT.out, HIP.out]; omega
    · have hnx := fun ty => Lib.run_next_end_at (P := Tryd.prog) wr w.heap.size s p ty hit hp
      have hE := (hc.end' (by omega)).1
      have HK := Lib.hid (show done.length = countN l by rw [hE]; rfl)
      clear hE hc hit
      go_wp2_with fail
      go_ret
      exact ⟨ret_int (by rw [HK.out]), hb⟩
theorem columns_any (s : ByteArray) (hs : s.size ≤ 140737488351232) (f t : Int) (w : World) :
    Calls Tryd.prog 23 #[.string s, .int .i64 f, .int .i64 t] w fun e w' => e = .returned (.int .i64 (colsV (bs s) f t : Nat)) ∧ Below w.heap.size w w' := columns_far s (by omega) f t w
end Go.Proofs.YticonolnagcakaaDoor

namespace Go.Proofs.YticonolnagcakaaDoor
open Go.RowKit

theorem grownBy_set (W : World) (b i : Nat) (v : Value) : W.grownBy (W.setCell ⟨b, i, none⟩ v) (some b) :=
  ⟨rfl, rfl, rfl, (KeepsWalks.setCell W _ v).size, fun k _ hk => Below.heap_setCell _ _ _ k (fun e => hk (by rw [e]))⟩

theorem alloc_get (w : World) (o : Obj) (i : Nat) : (w.alloc o).heap[i]? = if i = w.heap.size then some o else w.heap[i]? := by
  show (w.heap.push o)[i]? = _
  rw [Array.getElem?_push]
/-- blocks laid one behind the other -/
def allocs (w : World) : List Obj → World
  | [] => w
  | o :: r => allocs (w.alloc o) r
theorem allocs_old : ∀ (os : List Obj) (w : World) (i : Nat), i < w.heap.size → (allocs w os).heap[i]? = w.heap[i]?
  | [], _, _, _ => rfl
  | o :: r, w, i, h => by
    show (allocs (w.alloc o) r).heap[i]? = _
    rw [allocs_old r (w.alloc o) i (by rw [World.size_alloc]; omega), alloc_get, if_neg (by omega)]
theorem allocs_get : ∀ (os : List Obj) (w : World) (i : Nat) (o : Obj), os[i]? = some o → (allocs w os).heap[w.heap.size + i]? = some o
  | [], _, _, _, h => by simp at h
  | x :: r, w, i, o, h => by
    show (allocs (w.alloc x) r).heap[w.heap.size + i]? = _
    cases i with
    | zero =>
      rw [Nat.add_zero, allocs_old r (w.alloc x) _ (by rw [World.size_alloc]; omega), alloc_get, if_pos rfl]
      simpa using h
    | succ i =>
      have := allocs_get r (w.alloc x) i o (by simpa using h)
      rw [World.size_alloc] at this
      rw [← this]
      congr 1
      omega
theorem allocs_size : ∀ (os : List Obj) (w : World), (allocs w os).heap.size = w.heap.size + os.length
  | [], _ => rfl
  | o :: r, w => by
    show (allocs (w.alloc o) r).heap.size = _
    rw [allocs_size r (w.alloc o), World.size_alloc, List.length_cons]
    omega
theorem allocs_below : ∀ (os : List Obj) (w w0 : World), Below w0.heap.size w0 w → Below w0.heap.size w0 (allocs w os)
  | [], _, _, h => h
  | o :: r, w, w0, h => allocs_below r (w.alloc o) w0 (al h o)

def Two (W : World) (B : Nat) (t : TypeId) (x y : Value) : Prop := W.heap[B]? = some (.cells #[x, y] t (0, 0))
theorem Two.lt {W : World} {B : Nat} {t : TypeId} {x y : Value} (h : Two W B t x y) : B < W.heap.size := (Array.getElem?_eq_some_iff.1 h).1
theorem Two.cell0 {W : World} {B : Nat} {t : TypeId} {x y : Value} (h : Two W B t x y) : W.cell? ⟨B, 0, none⟩ = some x := by simp [World.cell?, show W.heap[B]? = _ from h]
theorem Two.cell1 {W : World} {B : Nat} {t : TypeId} {x y : Value} (h : Two W B t x y) : W.cell? ⟨B, 1, none⟩ = some y := by simp [World.cell?, show W.heap[B]? = _ from h]
theorem Two.frozen0 {W : World} {B : Nat} {t : TypeId} {x y : Value} (h : Two W B t x y) : W.frozen? ⟨B, 0, none⟩ = false := by simp [World.frozen?, show W.heap[B]? = _ from h]
theorem Two.frozen1 {W : World} {B : Nat} {t : TypeId} {x y : Value} (h : Two W B t x y) : W.frozen? ⟨B, 1, none⟩ = false := by simp [World.frozen?, show W.heap[B]? = _ from h]
theorem Two.kept {W W' : World} {row : Option Nat} {B : Nat} {t : TypeId} {x y : Value} (h : Two W B t x y) (hg : W.grownBy W' row) (hne : some B ≠ row) : Two W' B t x y := (hg.block B h.lt hne).trans h
theorem Two.alloc {W : World} {B : Nat} {t : TypeId} {x y : Value} (h : Two W B t x y) (o : Obj) : Two (W.alloc o) B t x y := h.kept (World.grownBy_alloc W o none) (by simp)
theorem Two.new (W : World) (t : TypeId) (x y : Value) : Two (W.alloc (.cells #[x, y] t)) W.heap.size t x y := World.alloc_heap_new W _
theorem Two.set0 {W : World} {B : Nat} {t : TypeId} {x y : Value} (v : Value) (h : Two W B t x y) : Two (W.setCell ⟨B, 0, none⟩ v) B t v y := by
  obtain ⟨hlt, hk⟩ := Array.getElem?_eq_some_iff.1 h
  show (W.heap.modify B _)[B]? = _
  rw [Array.getElem?_eq_getElem (by rw [Array.size_modify]; exact hlt), Array.getElem_modify_self, hk]
  rfl
theorem Two.set1 {W : World} {B : Nat} {t : TypeId} {x y : Value} (v : Value) (h : Two W B t x y) : Two (W.setCell ⟨B, 1, none⟩ v) B t x v := by
  obtain ⟨hlt, hk⟩ := Array.getElem?_eq_some_iff.1 h
  show (W.heap.modify B _)[B]? = _
  rw [Array.getElem?_eq_getElem (by rw [Array.size_modify]; exact hlt), Array.getElem_modify_self, hk]
  rfl
theorem Two.other {W : World} {B B' : Nat} {t : TypeId} {x y : Value} (h : Two W B t x y) (hne : B ≠ B') (i : Nat) (u : Value) : Two (W.setCell ⟨B', i, none⟩ u) B t x y := h.kept (grownBy_set W B' i u) (fun e => hne (by cases e; rfl))
theorem boxOther {W : World} {B B' : Nat} {t : TypeId} {v : Value} (h : Boxed W B t v) (hne : B ≠ B') (i : Nat) (u : Value) : Boxed (W.setCell ⟨B', i, none⟩ u) B t v := h.kept (grownBy_set W B' i u) (fun e => hne (by cases e; rfl))
theorem two_own {β : Type} (B : Nat) (t : TypeId) (f g : β → Value) : Own (fun s W => Two W B t (f s) (g s)) := fun s X Y row hs hg hrow =>
  hs.kept hg (fun e' => by obtain ⟨o, ho, hc⟩ := hrow B e'.symm; rw [show X.heap[B]? = _ from hs] at ho; cases ho; cases hc)
/-- a block of two cells is no slice's own row of another type -/
theorem Two.not_row {W : World} {B : Nat} {t e : TypeId} {x y : Value} (h : Two W B t x y) (hte : t ≠ e) {base size k : Nat} {v : Value} {xs : List Value} (hr : W.ownsRow base e size v k xs) : some B ≠ v.ownBlock := by
  rcases hr.2 with ⟨rfl, _⟩ | ⟨g, cap, cur, rfl, _, hgb, _⟩
  · simp [Value.ownBlock]
  · intro e'
    obtain rfl : B = g := by simpa [Value.ownBlock] using e'
    have := (show W.heap[B]? = _ from h).symm.trans hgb
    simp at this
    exact hte this.2
theorem keepsOthers_below {W W' : World} (h : Below W.heap.size W W') : KeepsOthers W W' :=
  ⟨h.size, fun k _ hk _ => (h.block k (Array.getElem?_eq_some_iff.1 hk).1).trans hk⟩
/-- a block of more than two cells is another one -/
theorem Two.ne {W : World} {B g j : Nat} {t : TypeId} {x y v : Value} (h : Two W B t x y) (hc : W.cell? ⟨g, j, none⟩ = some v) (hj : 2 ≤ j) : g ≠ B := by
  intro e
  subst e
  simp [World.cell?, show W.heap[g]? = _ from h] at hc
  have : ([x, y] : List Value)[j]? = none := List.getElem?_eq_none (by simp; omega)
  rw [this] at hc
  cases hc
end Go.Proofs.YticonolnagcakaaDoor
