/-
  Rows of texts; the contract of EqTexts.
-/
import Derived.Test.YtebmjmohhpkonaaDoorLSplit
import Derived.Deep.RegionHeldLaw
namespace Go.Proofs.YtebmjmohhpkonaaDoor
open Go.RowKit

/-- texts lie in a row -/
def StrAt (w : World) (g n : Nat) (f : Nat → ByteArray) : Prop := ∀ k, k < n → w.cell? ⟨g, k, none⟩ = some (.string (f k))
theorem StrAt.below {w w' : World} {g n : Nat} {f : Nat → ByteArray} (h : StrAt w g n f) (hb : Below w.heap.size w w') : StrAt w' g n f := fun k hk => cellKeep (h k hk) hb
/-- the row as a list of values -/
def strL (n : Nat) (f : Nat → ByteArray) : List Value := (List.range n).map fun k => Value.string (f k)
theorem strL_get (n : Nat) (f : Nat → ByteArray) (k : Nat) (hk : k < n) : (strL n f)[k]? = some (.string (f k)) := by
  unfold strL
  rw [List.getElem?_map, List.getElem?_range hk]
  rfl
theorem strL_len (n : Nat) (f : Nat → ByteArray) : (strL n f).length = n := by unfold strL; simp
theorem strL_one (n : Nat) (f : Nat → ByteArray) : ∀ u ∈ strL n f, u.oneCell' = true := by
  intro u hu
  unfold strL at hu
  obtain ⟨k, _, rfl⟩ := List.mem_map.1 hu
  rfl
theorem StrAt.src {w : World} {g n : Nat} {f : Nat → ByteArray} (h : StrAt w g n f) (m : Nat) (hm : m ≤ n) : ∀ i u, (strL m f)[i]? = some u → w.cell? ((⟨g, 0, none⟩ : Addr).add i) = some u := by
  intro i u hu
  have hi : i < m := by
    obtain ⟨h1, _⟩ := List.getElem?_eq_some_iff.1 hu
    rwa [strL_len] at h1
  rw [strL_get m f i hi] at hu
  cases hu
  rw [Addr.add_lit, Nat.zero_add]
  exact h i (by omega)
theorem StrAt.owned {w : World} {base : Nat} {e : TypeId} {g n cap : Nat} {f : Nat → ByteArray} (h : w.ownsRow base e 1 (.slice (some ⟨g, 0, none⟩) n cap) n (strL n f)) : StrAt w g n f := by
  intro k hk
  rw [h.cellAt k (by omega), strL_get n f k hk]

theorem split_row (s : ByteArray) (hs : s.size ≤ 2097152) (w : World) (hT : Tabs w) :
    Calls Tryd.prog 25 #[.string s] w fun e w' => ∃ g, e = .returned (.slice (some ⟨g, 0, none⟩) (lnN (bs s)) (lnN (bs s))) ∧ StrAt w' g (lnN (bs s)) (lnT s) ∧ w.heap.size ≤ g ∧ g < w'.heap.size ∧ Below w.heap.size w w' := by
  refine (lsplit_any s hs w hT).mono ?_
  rintro e w' ⟨g, cap, rfl, hown, hb⟩
  exact ⟨g, rfl, StrAt.owned hown, (hown.lt g rfl).1, (hown.lt g rfl).2, hb⟩

set_option maxHeartbeats 2000000 in
theorem eqtexts_any (g1 g2 c1 c2 n : Nat) (hn : n ≤ 140737488351232) (f : Nat → ByteArray) (w : World) (h1 : StrAt w g1 n f) (h2 : StrAt w g2 n f) :
    Calls Tryd.prog 26 #[.slice (some ⟨g1, 0, none⟩) n c1, .slice (some ⟨g2, 0, none⟩) n c2] w fun e w' => e = .returned (.bool true) ∧ Below w.heap.size w w' := by
  have H1 := Lib.hid h1
  have H2 := Lib.hid h2
  clear h1 h2
  have hnn : (((n : Nat) : Int) != (n : Int)) = false := by simp
  go_enter Tryd.func26, Tryd.ntmps26
  go_wp2_with fail
  go_loopw [5] (fun i wr => ∃ k : Nat, i = .int .i64 (k : Nat) ∧ k ≤ n ∧ Below w.heap.size w wr) (fun i _ => n - (intOf i).toNat)
  case atStart => exact ⟨0, rfl, Nat.zero_le _, Below.refl _ _⟩
  case round =>
    obtain ⟨k, rfl, hk, hb⟩ := hrel
    by_cases hlt : k < n
    · have hi : (k : Int) < (n : Int) := by omega
      have d1 := cellKeep (H1.out k hlt) hb
      have d2 := cellKeep (H2.out k hlt) hb
      have hbd := hb.drew
      obtain ⟨t, ht⟩ : ∃ t, f k = t := ⟨_, rfl⟩
      rw [ht] at d1 d2
      clear ht
      have hS : wr.cell? ⟨g1, k, none⟩ = some (.string t) ∧ wr.cell? ⟨g2, k, none⟩ = some (.string t) := ⟨d1, d2⟩
      go_wp2_with fail
      go_region_held_law (fun w' => w'.cell? ⟨g1, k, none⟩ = some (.string t) ∧ w'.cell? ⟨g2, k, none⟩ = some (.string t)) (first | (with_reducible assumption) | exact hS) (fail)
      go_wp2_with fail
      exact ⟨⟨k + 1, by go_num, hlt, hbd⟩, by simp [intOf]; omega⟩
    · obtain rfl : k = n := by omega
      have hi : decide (k < k) = false := decide_eq_false (by omega)
      go_wp2_with fail
      go_ret
      exact ⟨rfl, hb⟩
end Go.Proofs.YtebmjmohhpkonaaDoor
