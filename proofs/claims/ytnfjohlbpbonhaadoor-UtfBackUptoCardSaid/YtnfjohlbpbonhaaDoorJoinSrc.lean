/-
  The contracts of Runes, join and sameRunes with the lists as slices that are read.
-/
import Derived.Test.YtnfjohlbpbonhaaDoorJoin
namespace Go.Proofs.YtnfjohlbpbonhaaDoor
open Go.RowKit

theorem src_of_owns {w : World} {base : Nat} {k : IntKind} {e : TypeId} {v : Value} {n : Nat} {zs : List Int} (h : w.ownsRow base e 1 v n (zs.map (Value.int k))) :
    ∃ ao cap, v = .slice ao n cap ∧ SrcI w k ao cap zs ∧ n ≤ cap ∧ zs.length = n ∧ ((∃ g, ao = some ⟨g, 0, none⟩ ∧ base ≤ g ∧ g < w.heap.size) ∨ ao = none ∧ n = 0 ∧ cap = 0) ∧ cap ≤ maxLen := by
  have hl : zs.length = n := by have := h.1; simpa using this
  rcases h.2 with ⟨rfl, rfl⟩ | ⟨g, cap, cur, rfl, hg, hc, hnc, hm, _, _⟩
  · exact ⟨none, 0, rfl, .inl ⟨rfl, List.length_eq_zero_iff.1 hl, rfl⟩, Nat.le_refl _, hl, .inr ⟨rfl, rfl, rfl⟩, Nat.zero_le _⟩
  · exact ⟨_, cap, rfl, .inr ⟨_, rfl, h.cells rfl⟩, hnc, hl, .inl ⟨g, rfl, hg, (h.lt g rfl).2⟩, hm⟩

theorem runes_src (s : ByteArray) (hs : s.size ≤ 1099511627776) (zs : List Int) (L : Nat) (hz : runesZ (bs s) = zs) (hL : zs.length = L) (w : World) :
    Calls Tryd.prog 22 #[.string s] w fun e w' => ∃ ao cap, e = .returned (.slice ao L cap) ∧ SrcI w' .i32 ao cap zs ∧ L ≤ cap ∧ ((∃ g, ao = some ⟨g, 0, none⟩ ∧ w.heap.size ≤ g ∧ g < w'.heap.size) ∨ ao = none ∧ L = 0 ∧ cap = 0) ∧ cap ≤ maxLen ∧ Below w.heap.size w w' := by
  refine (runes_any s hs w).mono ?_
  rintro e w' ⟨v, rfl, hown, hb⟩
  rw [← runesZ_len, hz, hL] at hown
  obtain ⟨ao, cap, rfl, h1, h2, h3, h4, h5⟩ := src_of_owns hown
  exact ⟨ao, cap, rfl, h1, h2, h4, h5, hb⟩

theorem join_at (ao bo : Option Addr) (ca cb na nb : Nat) (a b : List Int) (hna : a.length = na) (hnb : b.length = nb) (ha : na ≤ 1099511627776) (hb : nb ≤ 1099511627776) (w : World) (hA : SrcI w .i32 ao ca a) (hB : SrcI w .i32 bo cb b) :
    Calls Tryd.prog 31 #[.slice ao na ca, .slice bo nb cb] w fun e w' => ∃ v cap, e = .returned (.slice v (na + nb) cap) ∧ SrcI w' .i32 v cap (a ++ b) ∧ na + nb ≤ cap ∧ cap ≤ maxLen ∧ Below w.heap.size w w' := by
  subst hna hnb
  refine (join_any ao bo ca cb a b ha hb w hA hB).mono ?_
  rintro e w' ⟨v, rfl, hown, hbel⟩
  obtain ⟨vo, cap, rfl, h1, h2, h3, h4, h5⟩ := src_of_owns hown
  rw [List.length_append] at h2 ⊢
  exact ⟨vo, cap, rfl, h1, h2, h5, hbel⟩

theorem same_at (ao bo : Option Addr) (ca cb na nb : Nat) (a b : List Int) (hna : a.length = na) (hnb : b.length = nb) (ha : na ≤ 140737488351232) (h : a = b) (w : World) (hA : SrcI w .i32 ao ca a) (hB : SrcI w .i32 bo cb b) :
    Calls Tryd.prog 21 #[.slice ao na ca, .slice bo nb cb] w fun e w' => e = .returned (.bool true) ∧ Below w.heap.size w w' := by
  subst hna hnb
  have := sameRunes_any ao bo ca cb a b ha w hA.reads hB.reads
  rwa [show sameZ a b = true from decide_eq_true h] at this

theorem SrcI.take {w : World} {k : IntKind} {ao : Option Addr} {cap : Nat} {zs : List Int} (h : SrcI w k ao cap zs) (n : Nat) : SrcI w k ao cap (zs.take n) := by
  rcases h with ⟨h1, rfl, h2⟩ | ⟨ad, h1, hc⟩
  · exact .inl ⟨h1, by simp, h2⟩
  · refine .inr ⟨ad, h1, fun j u hj => ?_⟩
    rw [List.getElem?_map, List.getElem?_take] at hj
    split at hj
    · exact hc j u (by rw [List.getElem?_map]; exact hj)
    · simp at hj

theorem SrcI.drop {w : World} {k : IntKind} {g o : Nat} {cap c2 : Nat} {zs : List Int} (h : SrcI w k (some ⟨g, o, none⟩) cap zs) (n : Nat) : SrcI w k (some ⟨g, o + n, none⟩) c2 (zs.drop n) := by
  rcases h with ⟨h1, _, _⟩ | ⟨ad', h1, hc⟩
  · cases h1
  · cases h1
    refine .inr ⟨_, rfl, fun j u hj => ?_⟩
    rw [List.getElem?_map, List.getElem?_drop] at hj
    have := hc (n + j) u (by rw [List.getElem?_map]; exact hj)
    rw [Addr.add_lit] at this ⊢
    rwa [Nat.add_assoc]

theorem encode_one (r : Int) (hr : -2147483648 ≤ r ∧ r ≤ 2147483647) (t : ByteArray) (h : encS [r] = t) (w : World) :
    Calls Tryd.prog 32 #[.slice (some ⟨w.heap.size, 0, none⟩) 1 1] (w.alloc (.cells #[.int .i32 r] 21)) fun e w' => e = .returned (.string t) ∧ Below (w.alloc (.cells #[.int .i32 r] 21)).heap.size (w.alloc (.cells #[.int .i32 r] 21)) w' := by
  have := encode_any (some ⟨w.heap.size, 0, none⟩) 1 [r] (w.alloc (.cells #[.int .i32 r] 21)) (reads_new w .i32 [r] 21) (by simpa using hr) (by simp)
  rwa [h] at this

theorem src_new (w : World) (k : IntKind) (z : Int) (t : TypeId) (cap : Nat) : SrcI (w.alloc (.cells #[.int k z] t)) k (some ⟨w.heap.size, 0, none⟩) cap [z] :=
  .inr ⟨_, rfl, cells_new w [.int k z] t⟩
end Go.Proofs.YtnfjohlbpbonhaaDoor
