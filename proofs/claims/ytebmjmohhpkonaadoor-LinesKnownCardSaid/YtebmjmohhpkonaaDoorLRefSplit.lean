/-
  The document's lines as texts: its Split; and 'same' of the law's.
-/
import Derived.Test.YtebmjmohhpkonaaDoorTexts
import Derived.Test.YtebmjmohhpkonaaDoorLRefAll
import Derived.Test.YtebmjmohhpkonaaDoorBox
import Derived.Laws.StructEq
namespace Go.Proofs.YtebmjmohhpkonaaDoor
open Go.RowKit

theorem t3_keep {W0 W W' : World} {g1 i1 g2 i2 g3 i3 : Nat} {v1 v2 v3 : Value} (H : W.cell? ⟨g1, i1, none⟩ = some v1 ∧ W.cell? ⟨g2, i2, none⟩ = some v2 ∧ W.cell? ⟨g3, i3, none⟩ = some v3 ∧ Below W0.heap.size W0 W) (hb : Below W.heap.size W W') :
    W'.cell? ⟨g1, i1, none⟩ = some v1 ∧ W'.cell? ⟨g2, i2, none⟩ = some v2 ∧ W'.cell? ⟨g3, i3, none⟩ = some v3 ∧ Below W0.heap.size W0 W' :=
  ⟨cellKeep H.1 hb, cellKeep H.2.1 hb, cellKeep H.2.2.1 hb, nx H.2.2.2 hb⟩
theorem strL_snoc (k : Nat) (f : Nat → ByteArray) : strL k f ++ [.string (f k)] = strL (k + 1) f := by
  unfold strL
  rw [List.range_succ, List.map_append]
  rfl

set_option maxRecDepth 10000 in
set_option maxHeartbeats 4000000 in
theorem refsplit_any (s : ByteArray) (hs : s.size ≤ 1048576) (w : World) :
    Calls Tryd.prog 24 #[.string s] w fun e w' => ∃ v, e = .returned v ∧ w'.ownsRow w.heap.size 9 1 v (lnN (bs s)) (strL (lnN (bs s)) (lnT s)) ∧ Below w.heap.size w w' := by
  obtain ⟨i0, hi, hz0, hz1, hz2⟩ := info_parts info_str
  have HR := Lib.hid (fun w => refall_at s hs w)
  have hN := lnN_le (bs s)
  rw [← size_bs] at hN
  obtain ⟨n, hn⟩ : ∃ n, lnN (bs s) = n := ⟨_, rfl⟩
  rw [hn] at HR hN ⊢
  have HNN := Lib.hid hn
  clear hn
  go_enter Tryd.func24, Tryd.ntmps24
  go_wp2_with (first | (go_at_call 19; (with_reducible refine (HR.out _).mono ?_); rintro e w1 ⟨ao, cap, rfl, hla, hb1⟩))
  have HLA := Lib.hid hla
  have hsz1 := hb1.size
  clear hla
  go_loopw [4, 5] (fun v i wr => ∃ k : Nat, i = .int .i64 (k : Nat) ∧ k ≤ n ∧ wr.ownsRow w1.heap.size 9 1 v k (strL k (lnT s)) ∧ Below w1.heap.size w1 wr) (fun _ i _ => n - (intOf i).toNat)
  case atStart => exact ⟨0, rfl, Nat.zero_le _, World.ownsRow_nil _ _ _ _, Below.refl _ _⟩
  case round =>
    obtain ⟨k, rfl, hk, hown, hb⟩ := hrel
    by_cases hlt : k < n
    · have hik : (k : Int) < (n : Int) := by omega
      have hk' : k < lnN (bs s) := by rw [HNN.out]; exact hlt
      obtain ⟨g, rfl, d0, d1, d2⟩ := HLA.out k hk'
      obtain ⟨g1, g2, g3, -⟩ := ln_get (bs s) k hk'
      have hex : s.extract (lnA (bs s) k) (lnB (bs s) k + lnE (bs s) k) = lnT s k := rfl
      rw [← size_bs] at g2
      have HSN := Lib.hid (strL_snoc k (lnT s))
      clear hk'
      obtain ⟨T, hT'⟩ : ∃ T, lnT s k = T := ⟨_, rfl⟩
      obtain ⟨A, hA⟩ : ∃ A, lnA (bs s) k = A := ⟨_, rfl⟩
      obtain ⟨B, hB⟩ : ∃ A, lnB (bs s) k = A := ⟨_, rfl⟩
      obtain ⟨E, hE⟩ : ∃ A, lnE (bs s) k = A := ⟨_, rfl⟩
      rw [hT'] at hex HSN
      rw [hA] at g1 hex d0
      rw [hB] at g1 g2 hex d1
      rw [hE] at g2 g3 hex d2
      clear hT' hA hB hE
      obtain ⟨To, hTo⟩ : ∃ To, B + E = To := ⟨_, rfl⟩
      rw [hTo] at g2 hex
      have hTi : (B : Int) + (E : Int) = (To : Int) := by omega
      have hw1 : IntKind.i64.wrap (To : Int) = (To : Int) := IntWalk.i64_in _ (by omega)
      have hAT : A ≤ To := by omega
      have hkl : k ≤ 1048577 := by omega
      clear hTo
      have hS : wr.cell? ⟨g, k * 3, none⟩ = some (.int .i64 (A : Nat)) ∧ wr.cell? ⟨g, k * 3 + 1, none⟩ = some (.int .i64 (B : Nat)) ∧ wr.cell? ⟨g, k * 3 + 2, none⟩ = some (.int .i64 (E : Nat)) ∧ Below w1.heap.size w1 wr := ⟨cellKeep d0 hb, cellKeep d1 hb, cellKeep d2 hb, hb⟩
      have hszr := hb.size
      go_wp2_with fail
      go_region_held_law (fun w' => w'.cell? ⟨g, k * 3, none⟩ = some (.int .i64 (A : Nat)) ∧ w'.cell? ⟨g, k * 3 + 1, none⟩ = some (.int .i64 (B : Nat)) ∧ w'.cell? ⟨g, k * 3 + 2, none⟩ = some (.int .i64 (E : Nat)) ∧ Below w1.heap.size w1 w') (first | (with_reducible assumption) | (with_reducible exact t3_keep hS (Below.refl _ _).drew) | (with_reducible exact t3_keep hS (((Below.refl _ _).alloc (Nat.le_refl _) _).drew)) | (with_reducible exact t3_keep (by assumption) ((Below.refl _ _).alloc (Nat.le_refl _) _)) | (with_reducible exact t3_keep (by assumption) (by assumption)))
        (first | (refine step_append_lies _ (by rfl) _ _ _ (by rfl) w1.heap.size 9 i0 (.string ⟨#[]⟩) 1 16 Tryd.underlying46 hi hz0 hz1 hz2 rfl (by decide) u4 _ _ (by rfl) ((show wr.drew.ownsRow w1.heap.size 9 1 u4 k (strL k (lnT s)) from hown).alloc (.cells #[.string T] 9)) ⟨wr.drew.heap.size, 0, none⟩ 1 1 [.string T] (by rfl) (by simp) (cells_new wr.drew _ _) (by simp [Value.oneCell']) (by decide) (by unfold maxLen; omega) (by omega) (by show w1.heap.size ≤ (wr.alloc _).heap.size; rw [World.size_alloc]; exact Nat.le_succ_of_le hszr) _ rfl ?_; intro g5 cap5 w5 r1 r2 _ _; have hb5 : Below w1.heap.size w1 w5 := (al hb _).drew.grown r2 (by show w1.heap.size ≤ (wr.alloc _).heap.size; rw [World.size_alloc]; exact Nat.le_succ_of_le hszr) (fun q e => (hown.lt q e).1); have hS5 := And.intro (cellKeep d0 hb5) (And.intro (cellKeep d1 hb5) (And.intro (cellKeep d2 hb5) hb5))))
      go_wp2_with fail
      exact ⟨⟨k + 1, by go_num, hlt, by rw [← HSN.out]; exact r1, hb5⟩, by simp [intOf]; omega⟩
    · obtain rfl : k = n := by omega
      have hi : decide (k < k) = false := decide_eq_false (by omega)
      go_wp2_with fail
      go_ret
      exact ⟨_, rfl, owns_base hown hsz1, hb1.trans (hb.mono hsz1)⟩

/-- lines lie in a row -/
def LnRow (w : World) (g n : Nat) (f : Nat → Nat × Nat × Nat) : Prop :=
  ∀ k, k < n → w.cell? ⟨g, k * 3, none⟩ = some (.int .i64 ((f k).1 : Nat)) ∧ w.cell? ⟨g, k * 3 + 1, none⟩ = some (.int .i64 ((f k).2.1 : Nat)) ∧ w.cell? ⟨g, k * 3 + 2, none⟩ = some (.int .i64 ((f k).2.2 : Nat))
theorem LnRow.below {w w' : World} {g n : Nat} {f : Nat → Nat × Nat × Nat} (h : LnRow w g n f) (hb : Below w.heap.size w w') : LnRow w' g n f :=
  fun k hk => ⟨cellKeep (h k hk).1 hb, cellKeep (h k hk).2.1 hb, cellKeep (h k hk).2.2 hb⟩
theorem LinesAt.row {w : World} {ao : Option Addr} {l : Bs} (h : LinesAt w ao l) : ∃ g, ao = some ⟨g, 0, none⟩ ∧ LnRow w g (lnN l) (lnX l) := by
  obtain ⟨g, rfl, _⟩ := h 0 (lnN_pos l)
  refine ⟨g, rfl, fun k hk => ?_⟩
  obtain ⟨g', e, h0, h1, h2⟩ := h k hk
  cases e
  exact ⟨h0, h1, h2⟩

theorem eq_line (a b e a' b' e' : Int) (w : World) :
    (Op.equalIn 10000 45 (.agg #[.int .i64 a, .int .i64 b, .int .i64 e]) (.agg #[.int .i64 a', .int .i64 b', .int .i64 e'])).run Tryd.prog w = .ok (decide (a = a' ∧ b = b' ∧ e = e')) w := by
  have u3 := Tryd.underlying3
  have a3 := Tryd.isAgg3
  have z3 := Tryd.sizeOf3
  have u4 := Tryd.underlying41
  have a4 := Tryd.isAgg41
  have z4 := Tryd.sizeOf41
  have hS : Tryd.prog.underlying 45 = some (.struct (Tryd.prog.fieldsOf 45)) := by kernel_rfl
  have hp : Tryd.prog.stoodInHeld 45 = false := by kernel_rfl
  have hS2 : Tryd.prog.underlying 41 = some (.struct (Tryd.prog.fieldsOf 41)) := by kernel_rfl
  have hp2 : Tryd.prog.stoodInHeld 41 = false := by kernel_rfl
  rw [show (10000 : Nat) = 9999 + 1 from rfl, run_equalIn_agg w 9999 45 _ _ hS hp]
  simp only [Program.fieldsOf, Tryd.underlying45]
  go_simp
  by_cases h1 : a = a' <;> by_cases h2 : b = b' <;> by_cases h3 : e = e' <;> simp [h1, h2, h3]
theorem guard_line : Tryd.prog.eqGuardType Tryd.prog.depth 45 = false := by kernel_rfl

set_option maxHeartbeats 2000000 in
theorem same_any (g1 g2 c1 c2 n : Nat) (hn : n ≤ 140737488351232) (f : Nat → Nat × Nat × Nat) (w : World) (h1 : LnRow w g1 n f) (h2 : LnRow w g2 n f) :
    Calls Tryd.prog 21 #[.slice (some ⟨g1, 0, none⟩) n c1, .slice (some ⟨g2, 0, none⟩) n c2] w fun e w' => e = .returned (.bool true) ∧ Below w.heap.size w w' := by
  have H1 := Lib.hid h1
  have H2 := Lib.hid h2
  clear h1 h2
  have hnn : (((n : Nat) : Int) != (n : Int)) = false := by simp
  go_enter Tryd.func21, Tryd.ntmps21
  go_wp2_with fail
  go_loopw [5] (fun i wr => ∃ k : Nat, i = .int .i64 (k : Nat) ∧ k ≤ n ∧ Below w.heap.size w wr) (fun i _ => n - (intOf i).toNat)
  case atStart => exact ⟨0, rfl, Nat.zero_le _, Below.refl _ _⟩
  case round =>
    obtain ⟨k, rfl, hk, hb⟩ := hrel
    by_cases hlt : k < n
    · have hi : (k : Int) < (n : Int) := by omega
      obtain ⟨a0, a1, a2⟩ := H1.out k hlt
      obtain ⟨b0, b1, b2⟩ := H2.out k hlt
      have a0 := cellKeep a0 hb
      have a1 := cellKeep a1 hb
      have a2 := cellKeep a2 hb
      have b0 := cellKeep b0 hb
      have b1 := cellKeep b1 hb
      have b2 := cellKeep b2 hb
      obtain ⟨A, hA⟩ : ∃ A, (f k).1 = A := ⟨_, rfl⟩
      obtain ⟨B, hB⟩ : ∃ A, (f k).2.1 = A := ⟨_, rfl⟩
      obtain ⟨E, hE⟩ : ∃ A, (f k).2.2 = A := ⟨_, rfl⟩
      rw [hA] at a0 b0
      rw [hB] at a1 b1
      rw [hE] at a2 b2
      clear hA hB hE
      have hbd := hb.drew
      have hS : wr.cell? ⟨g1, k * 3, none⟩ = some (.int .i64 (A : Nat)) ∧ wr.cell? ⟨g1, k * 3 + 1, none⟩ = some (.int .i64 (B : Nat)) ∧ wr.cell? ⟨g1, k * 3 + 2, none⟩ = some (.int .i64 (E : Nat)) ∧ wr.cell? ⟨g2, k * 3, none⟩ = some (.int .i64 (A : Nat)) ∧ wr.cell? ⟨g2, k * 3 + 1, none⟩ = some (.int .i64 (B : Nat)) ∧ wr.cell? ⟨g2, k * 3 + 2, none⟩ = some (.int .i64 (E : Nat)) := ⟨a0, a1, a2, b0, b1, b2⟩
      go_wp2_with fail
      go_region_held_law (fun w' => w'.cell? ⟨g1, k * 3, none⟩ = some (.int .i64 (A : Nat)) ∧ w'.cell? ⟨g1, k * 3 + 1, none⟩ = some (.int .i64 (B : Nat)) ∧ w'.cell? ⟨g1, k * 3 + 2, none⟩ = some (.int .i64 (E : Nat)) ∧ w'.cell? ⟨g2, k * 3, none⟩ = some (.int .i64 (A : Nat)) ∧ w'.cell? ⟨g2, k * 3 + 1, none⟩ = some (.int .i64 (B : Nat)) ∧ w'.cell? ⟨g2, k * 3 + 2, none⟩ = some (.int .i64 (E : Nat))) (first | (with_reducible assumption) | exact hS) (fail)
      go_wp2_with fail
      exact ⟨⟨k + 1, by go_num, hlt, hbd⟩, by simp [intOf]; omega⟩
    · obtain rfl : k = n := by omega
      have hi : decide (k < k) = false := decide_eq_false (by omega)
      go_wp2_with fail
      go_ret
      exact ⟨rfl, hb⟩
end Go.Proofs.YtebmjmohhpkonaaDoor
