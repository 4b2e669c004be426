/-
  The contracts of Runes, join and sameRunes with the lists as slices that are read.
-/
import Derived.Test.YtpihmbdfhhjleaaDoorJoin
namespace Go.Proofs.YtpihmbdfhhjleaaDoor
open Go.RowKit

theorem src_of_owns {w : World} {base : Nat} {k : IntKind} {e : TypeId} {v : Value} {n : Nat} {zs : List Int} (h : w.ownsRow base e 1 v n (zs.map (Value.int k))) :
    ∃ ao cap, v = .slice ao n cap ∧ SrcI w k ao cap zs ∧ n ≤ cap ∧ zs.length = n ∧ ((∃ g, ao = some ⟨g, 0, none⟩ ∧ base ≤ g ∧ g < w.heap.size) ∨ ao = none ∧ n = 0 ∧ cap = 0) ∧ cap ≤ maxLen := by
  have hl : zs.length = n := by have := h.1; simpa using this
  rcases h.2 with ⟨rfl, rfl⟩ | ⟨g, cap, cur, rfl, hg, hc, hnc, hm, _, _⟩
  · exact ⟨none, 0, rfl, .inl ⟨rfl, List.length_eq_zero_iff.1 hl, rfl⟩, Nat.le_refl _, hl, .inr ⟨rfl, rfl, rfl⟩, Nat.zero_le _⟩
  · exact ⟨_, cap, rfl, .inr ⟨_, rfl, h.cells rfl⟩, hnc, hl, .inl ⟨g, rfl, hg, (h.lt g rfl).2⟩, hm⟩

theorem SrcI.take {w : World} {k : IntKind} {ao : Option Addr} {cap : Nat} {zs : List Int} (h : SrcI w k ao cap zs) (n : Nat) : SrcI w k ao cap (zs.take n) := by
  rcases h with ⟨h1, rfl, h2⟩ | ⟨ad, h1, hc⟩
  · exact .inl ⟨h1, by simp, h2⟩
  · refine .inr ⟨ad, h1, fun j u hj => ?_⟩
    rw [List.getElem?_map, List.getElem?_take] at hj
    split at hj
    · exact hc j u (by rw [List.getElem?_map]; exact hj)
    · simp at hj

theorem SrcI.drop {w : World} {k : IntKind} {g o : Nat} {cap c2 : Nat} {zs : List Int} (h : SrcI w k (some ⟨g, o, none⟩) cap zs) (n : Nat) : SrcI w k (some ⟨g, o + n, none⟩) c2 (zs.drop n) := by
  rcases h with ⟨h1, _, _⟩ | ⟨ad', h1, hc⟩
  · cases h1
  · cases h1
    refine .inr ⟨_, rfl, fun j u hj => ?_⟩
    rw [List.getElem?_map, List.getElem?_drop] at hj
    have := hc (n + j) u (by rw [List.getElem?_map]; exact hj)
    rw [Addr.add_lit] at this ⊢
    rwa [Nat.add_assoc]

theorem src_new (w : World) (k : IntKind) (z : Int) (t : TypeId) (cap : Nat) : SrcI (w.alloc (.cells #[.int k z] t)) k (some ⟨w.heap.size, 0, none⟩) cap [z] :=
  .inr ⟨_, rfl, cells_new w [.int k z] t⟩
end Go.Proofs.YtpihmbdfhhjleaaDoor
