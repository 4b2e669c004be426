/-
  The contracts of the program's Last, Begins, At and Of.
-/
import Derived.Test.YtebmjmohhpkonaaDoorFirst
namespace Go.Proofs.YtebmjmohhpkonaaDoor
open Go.RowKit

theorem rightR_imp {r : Int} {n : Nat} (h : rightR r n = false) : r = 65533 ∧ n = 1 := by
  unfold rightR at h
  simp at h
  exact h

/-! ### At -/
theorem atZ_in {l : Bs} {c : Int} (h : 0 ≤ c ∧ c ≤ (countN l : Int)) : atZ l c = (((atN l c.toNat : Nat) : Int), 0) := if_pos h
theorem atZ_out {l : Bs} {c : Int} (h : ¬ (0 ≤ c ∧ c ≤ (countN l : Int))) : atZ l c = (0, 6) := if_neg h

set_option maxHeartbeats 400000 in
theorem at_any (s : ByteArray) (hs : s.size ≤ 140737488351232) (c : Int) (w : World) :
    Calls Tryd.prog 33 #[.string s, .int .i64 c] w fun e w' => e = .returned (.tuple #[.int .i64 (atZ (bs s) c).1, .int .i64 (atZ (bs s) c).2]) ∧ Below w.heap.size w w' := by
  by_cases hc0 : c < 0
  · have H := Lib.hid (atZ_out (l := bs s) (c := c) (by omega))
    go_enter Tryd.func33, Tryd.ntmps33
    go_wp2
    go_ret2
    rw [H.out]
    exact ⟨rfl, Below.refl _ _⟩
  · obtain ⟨n, rfl⟩ : ∃ n : Nat, c = n := ⟨c.toNat, by omega⟩
    clear hc0
    go_enter Tryd.func33, Tryd.ntmps33
    go_wp2
    go_loopw [6] (fun m wr => ∃ done p, Cut (bs s) done p ∧ done.length ≤ n ∧ m = .int .i64 (done.length : Nat) ∧ wr = w.iter s p) (fun _ wr => s.size - wr.iterPos w.heap.size)
    case atStart => exact ⟨[], 0, Cut.zero _, Nat.zero_le _, rfl, rfl⟩
    case round =>
      obtain ⟨done, p, hc, hdn, rfl, rfl⟩ := hrel
      have hle := hc.len_le
      have hpl := hc.1
      rw [← size_bs] at hpl
      by_cases hp : p < s.size
      · have hnx := fun ty => run_next_any (P := Tryd.prog) w s p ty hp
        have hst := Lib.hid (hc.step (by rw [← size_bs]; exact hp))
        rw [decode_bs] at hnx
        have hw := (wid_bounds ((bs s).drop p)).1
        obtain ⟨d, hd⟩ : ∃ d, d = Lib.decodeL ((bs s).drop p) := ⟨_, rfl⟩
        rw [← hd] at hnx hst hw
        by_cases he : done.length = n
        · have hcnt := hc.le_count
          have hat := hc.at'
          rw [he] at hcnt hat
          have H := Lib.hid (atZ_in (l := bs s) (c := (n : Int)) (by omega))
          have HA := Lib.hid hat
          have heq : ((done.length : Int) == (n : Int)) = true := by simp [he]
          clear hcnt hat hd hc he
          go_wp2
          go_ret2
          rw [H.out]
          simp only [Int.toNat_natCast]
          rw [HA.out]
          exact ⟨rfl, below_iter _ _ _⟩
        · have heq : ((done.length : Int) == (n : Int)) = false := beq_eq_false_iff_ne.2 (by omega)
          clear hd hc
          go_wp2
          go_roundw
          case rel => exact ⟨_, _, hst.out, by simp; omega, by simp, rfl⟩
          case measure => simp; omega
      · have hnx := fun ty => run_next_end (P := Tryd.prog) w s p ty hp
        have he := hc.end' (by rw [← size_bs]; exact hp)
        have hE := he.1
        have hpe := he.2
        rw [← size_bs] at hpe
        have hcl : countN (bs s) = done.length := by unfold countN; rw [hE]
        by_cases hn : done.length = n
        · have H := Lib.hid (atZ_in (l := bs s) (c := (n : Int)) (by omega))
          have hA : atN (bs s) n = s.size := by rw [← hn, ← hcl, atN_full, size_bs]
          have HA := Lib.hid hA
          have heq : ((done.length : Int) == (n : Int)) = true := by simp [hn]
          clear hA hcl hE hpe he hc hn
          go_wp2
          go_ret2
          rw [H.out]
          simp only [Int.toNat_natCast]
          rw [HA.out]
          exact ⟨rfl, below_iter _ _ _⟩
        · have H := Lib.hid (atZ_out (l := bs s) (c := (n : Int)) (by omega))
          have heq : ((done.length : Int) == (n : Int)) = false := beq_eq_false_iff_ne.2 (by omega)
          clear hcl hE hpe he hc hn
          go_wp2
          go_ret2
          rw [H.out]
          exact ⟨rfl, below_iter _ _ _⟩

/-! ### Of -/
theorem ofZ_in {l : Bs} {c : Int} (h : 0 ≤ c ∧ c ≤ (l.length : Int)) : ofZ l c = (((ofT (tk l) c.toNat : Nat) : Int), 0) := if_pos h
theorem ofZ_out {l : Bs} {c : Int} (h : ¬ (0 ≤ c ∧ c ≤ (l.length : Int))) : ofZ l c = (0, 6) := if_neg h

/-- what is done when a character begins behind a place, all others having begun at it or ahead of it -/
theorem of_done {l : Bs} {done : List (Nat × Nat)} {p q : Nat} (hc : Cut l done p) (hq : q < p) (_hp : p ≤ l.length) (hall : ∀ d c, done = d ++ [c] → wsum d ≤ q) : ofT (tk l) q = done.length - 1 ∧ 1 ≤ done.length := by
  rcases List.eq_nil_or_concat done with rfl | ⟨d, c, rfl⟩
  · have := hc.2.2; simp [wsum] at this; omega
  · rw [List.concat_eq_append] at hc hall ⊢
    have h1 := hall d c rfl
    have h2 := hc.2.2
    rw [wsum_append, wsum_cons, wsum_nil] at h2
    rw [hc.2.1]
    simp only [List.append_assoc, List.singleton_append]
    rw [ofT_append _ _ _ h1, ofT, if_pos (by omega)]
    simp

/-! ### Begins -/
theorem begB_t {l : Bs} {q : Nat} (hq : q ≤ l.length) (h : Border l q) : begB l (q : Int) = true := by
  have := (bordT_iff l q hq).2 h
  simp [begB, this, hq]
theorem begB_f {l : Bs} {q : Nat} (hq : q ≤ l.length) (h : ¬ Border l q) : begB l (q : Int) = false := by
  have : bordT (tk l) q = false := Bool.eq_false_iff.2 fun e => h ((bordT_iff l q hq).1 e)
  simp [begB, this]
theorem begB_neg {l : Bs} {c : Int} (h : c < 0) : begB l c = false := by
  have : decide (0 ≤ c) = false := by simp; omega
  simp [begB, this]
theorem begB_beyond {l : Bs} {c : Int} (h : (l.length : Int) < c) : begB l c = false := by
  have : decide (c ≤ (l.length : Int)) = false := by simp; omega
  simp [begB, this]

end Go.Proofs.YtebmjmohhpkonaaDoor
