/-
  The contracts of the document's Pending, of the program's Runes, of the law's sameRunes, and of Mend, the program's and the document's.
-/
import Derived.Test.YtpihmbdfhhjleaaDoorBegin
import Derived.Test.YtpihmbdfhhjleaaDoorChars
import Derived.Test.YtpihmbdfhhjleaaDoorEncode
namespace Go.Proofs.YtpihmbdfhhjleaaDoor
open Go.RowKit

set_option maxHeartbeats 1000000 in
theorem refpending_any (s : ByteArray) (hs : s.size ≤ 140737488351232) (w : World) :
    Calls Tryd.prog 36 #[.string s] w fun e w' => e = .returned (.int .i64 (pendN (bs s))) ∧ Below w.heap.size w w' := by
  go_enter Tryd.func36, Tryd.ntmps36
  go_wp2
  go_loopw [3] (fun i wr => ∃ k : Nat, 1 ≤ k ∧ k ≤ 4 ∧ k ≤ s.size + 1 ∧ i = .int .i64 k ∧ Hid (∀ j, 1 ≤ j → j < k → properB (tailOf (bs s) j) = false) ∧ Below w.heap.size w wr) (fun i _ => 4 - (intOf i).toNat)
  case atStart => exact ⟨1, by omega, by omega, by omega, rfl, (show Hid _ from fun j h1 h2 => absurd h2 (by omega)), Below.refl _ _⟩
  case round =>
    obtain ⟨k, hk1, hk4, hkn, rfl, hall, hb⟩ := hrel
    by_cases hin : k ≤ 3 ∧ k ≤ s.size
    · obtain ⟨h3, hks⟩ := hin
      have hE : (s.extract (s.size - k) s.size).size ≤ 140737488351232 := by rw [size_bs, bs_drop]; simp; omega
      have hB := fun w => beginning_any (s.extract (s.size - k) s.size) hE w
      rw [bs_drop] at hB
      have htl : (bs s).drop (s.size - k) = tailOf (bs s) k := by unfold tailOf; rw [size_bs]
      rw [htl] at hB
      have HB := Lib.hid hB
      clear hB hE htl
      cases hp : properB (tailOf (bs s) k)
      · have HP := Lib.hid hp
        go_wp2_with (go_at_call 45; (with_reducible refine (HB.out _).mono ?_); rintro e w1 ⟨rfl, hb1⟩)
        go_roundw
        case rel =>
          refine ⟨k + 1, by omega, by omega, by omega, by go_num, (show Hid _ from fun j h1 h2 => ?_), nx hb hb1⟩
          by_cases e : j = k
          · subst e; exact HP.out
          · exact hall.out j h1 (by omega)
        case measure => simp [intOf]; omega
      · have HV := Lib.hid (show pendN (bs s) = k by
          have hks' : k ≤ (bs s).length := by rw [← size_bs]; exact hks
          unfold pendN
          obtain rfl | rfl | rfl : k = 1 ∨ k = 2 ∨ k = 3 := by omega
          · rw [hp, if_pos ⟨hks', rfl⟩]
          · rw [hall.out 1 (by omega) (by omega), hp, if_neg (by simp), if_pos ⟨hks', rfl⟩]
          · rw [hall.out 1 (by omega) (by omega), hall.out 2 (by omega) (by omega), hp, if_neg (by simp), if_neg (by simp), if_pos ⟨hks', rfl⟩])
        go_wp2_with (go_at_call 45; (with_reducible refine (HB.out _).mono ?_); rintro e w1 ⟨rfl, hb1⟩)
        go_ret
        rw [HV.out]
        exact ⟨rfl, nx hb hb1⟩
    · have HV := Lib.hid (show pendN (bs s) = 0 by
        unfold pendN
        have c : ∀ j, 1 ≤ j → j ≤ 3 → ¬ (j ≤ (bs s).length ∧ properB (tailOf (bs s) j) = true) := by
          rintro j h1 h3 ⟨h4, h5⟩
          rw [← size_bs] at h4
          rw [hall.out j h1 (by omega)] at h5
          cases h5
        rw [if_neg (c 1 (by omega) (by omega)), if_neg (c 2 (by omega) (by omega)), if_neg (c 3 (by omega) (by omega))])
      by_cases h4 : k ≤ 3
      · have hks : ¬ k ≤ s.size := by omega
        clear hin
        go_wp2
        go_ret
        rw [HV.out]
        exact ⟨rfl, hb⟩
      · clear hin
        go_wp2
        go_ret
        rw [HV.out]
        exact ⟨rfl, hb⟩

/-! ### Runes -/
theorem owns_iter {w : World} {base : Nat} {e : TypeId} {size : Nat} {v : Value} {n : Nat} {xs : List Value} (h : w.ownsRow base e size v n xs) {K : Nat} {s : ByteArray} {p : Nat} (hk : w.heap[K]? = some (.stringIter s p)) (p' : Nat) : (w.iterAt K s p').ownsRow base e size v n xs := by
  obtain ⟨h1, h2⟩ := h
  refine ⟨h1, ?_⟩
  rcases h2 with h2 | ⟨g, cap, cur, hv, hg, hh, r⟩
  · exact .inl h2
  · refine .inr ⟨g, cap, cur, hv, hg, ?_, r⟩
    rw [Lib.iterAt_other _ _ _ _ _ (by rintro rfl; rw [hh] at hk; cases hk)]
    exact hh
theorem iter_grown {w w' : World} {base : Nat} {e : TypeId} {size : Nat} {v : Value} {n : Nat} {xs : List Value} (h : w.ownsRow base e size v n xs) (o : Obj) (hg : (w.alloc o).grownBy w' v.ownBlock) {K : Nat} {s : ByteArray} {p : Nat} (hk : w.heap[K]? = some (.stringIter s p)) : w'.heap[K]? = some (.stringIter s p) := by
  have hlt : K < w.heap.size := (Array.getElem?_eq_some_iff.1 hk).1
  rw [hg.block K (by rw [World.size_alloc]; omega) ?_]
  · rw [Below.heap_alloc _ _ _ hlt]; exact hk
  · intro e1
    rcases h.2 with ⟨rfl, _⟩ | ⟨g, cap, cur, rfl, hgb, hh, _⟩
    · simp [Value.ownBlock] at e1
    · simp [Value.ownBlock] at e1
      subst e1
      rw [hh] at hk; cases hk

/-! ### sameRunes -/
def sameZ (a b : List Int) : Bool := decide (a = b)
theorem sameZ_self (a : List Int) : sameZ a a = true := decide_eq_true rfl

/-! ### Mend -/
theorem runesZ_wf (l : Bs) : ∀ r ∈ runesZ l, -2147483648 ≤ r ∧ r ≤ 2147483647 := by
  intro r hr
  obtain ⟨c, hc, rfl⟩ := List.mem_map.1 hr
  have : ∀ (n : Nat) (m : Bs), m.length ≤ n → ∀ c ∈ tk m, c.1 ≤ 1114111 := by
    intro n
    induction n with
    | zero => intro m hm; have : m = [] := List.length_eq_zero_iff.1 (by omega); subst this; intro c hc; simp [tk_nil] at hc
    | succ n ih =>
      intro m hm c hc
      by_cases h : m = []
      · subst h; simp [tk_nil] at hc
      · rw [tk_cons m h] at hc
        rcases List.mem_cons.1 hc with rfl | hc
        · exact dec_le m
        · have h1 := (wid_bounds m).1
          have : 1 ≤ m.length := by cases m; contradiction; simp
          exact ih _ (by simp; omega) c hc
  have := this l.length l (Nat.le_refl _) c hc
  omega

end Go.Proofs.YtpihmbdfhhjleaaDoor
