/-
  Parts of the program and of the document, at all places: the same tallies and the same error.
-/
import Derived.Test.YtpihmbdfhhjleaaDoorTalBad
namespace Go.Proofs.YtpihmbdfhhjleaaDoor
open Go.RowKit

theorem IRow.src {W : World} {g n : Nat} {zs : List Int} (H : IRow W g (n + 9) (fs zs (n + 9))) (hl : zs.length = n) (c : Nat) : SrcI W .i64 (some ⟨g, 0, none⟩) c zs := by
  refine .inr ⟨_, rfl, fun j u hj => ?_⟩
  rw [List.getElem?_map] at hj
  have hjl : j < zs.length := by
    rcases Nat.lt_or_ge j zs.length with h | h
    · exact h
    · rw [List.getElem?_eq_none h] at hj; cases hj
  rw [List.getElem?_eq_getElem hjl] at hj
  simp at hj
  rw [Addr.add_lit, Nat.zero_add, H.1 j (by omega), ← hj]
  unfold fs
  rw [if_pos (by omega), if_pos hjl, List.getElem?_eq_getElem hjl]
  rfl

theorem parts_both (s : ByteArray) (hs : s.size ≤ 1048576) (n : Nat) (zs : List Int) (hl : zs.length = n) (hn : n ≤ 1048576) : ∃ (xs : List Rec) (e : Int), xs.length ≤ 1048577 ∧
    (∀ (ao : Option Addr) (cap : Nat) (w : World), SrcI w .i64 ao cap zs → Calls Tryd.prog 23 #[.string s, .slice ao n cap] w fun r w' => ∃ v, r = .returned (.tuple #[v, .int .i64 e]) ∧ w'.ownsRow w.heap.size 23 5 v xs.length (rowC xs) ∧ Below w.heap.size w w') ∧
    (∀ (ao : Option Addr) (cap : Nat) (w : World), SrcI w .i64 ao cap zs → Calls Tryd.prog 25 #[.string s, .slice ao n cap] w fun r w' => ∃ v, r = .returned (.tuple #[v, .int .i64 e]) ∧ w'.ownsRow w.heap.size 23 5 v xs.length (rowC xs) ∧ Below w.heap.size w w') := by
  rcases places_split zs s.size with ⟨cs, hz, hr⟩ | ⟨k, hk, hg, hb⟩
  · have hcl : cs.length = n := by rw [← hl, hz, zsI_len]
    have hlen : (prl (bs s) cs n ++ [recOf ((bs s).drop (pf cs n))]).length = n + 1 := by simp [prl_len]
    subst hz
    refine ⟨prl (bs s) cs n ++ [recOf ((bs s).drop (pf cs n))], 0, by omega, fun ao cap w hA => ?_, fun ao cap w hA => ?_⟩
    · rw [hlen]; exact rparts_any s (by omega) ao cap n cs hcl (by omega) hr w hA
    · rw [hlen]; exact parts_any s (by omega) ao cap n cs hcl (by omega) hr w hA
  · refine ⟨[], 2, by simp, fun ao cap w hA => ?_, fun ao cap w hA => ?_⟩
    · refine (rparts_bad s hs ao cap n k zs hl hn (by omega) hg hb w hA).mono ?_
      rintro r w' ⟨rfl, hbel⟩
      exact ⟨_, rfl, World.ownsRow_nil _ _ _ _, hbel⟩
    · refine (parts_bad s hs ao cap n k zs hl hn (by omega) hg hb w hA).mono ?_
      rintro r w' ⟨rfl, rfl⟩
      exact ⟨_, rfl, World.ownsRow_nil _ _ _ _, Below.refl _ _⟩
end Go.Proofs.YtpihmbdfhhjleaaDoor
