/-
  A word out of bytes: the contracts of bits.Take and of the document's word.
-/
import Derived.Test.YtfoppbignompkaaDoorCurWordLaw
import Derived.Laws.Bits64b
namespace Go.Proofs.YtfoppbignompkaaDoor
open Go.RowKit

theorem or_byte (u b : Int) (hu : 0 ≤ u) (hu2 : u < 72057594037927936) (hb : 0 ≤ b) (hb2 : b ≤ 255) : bits .or .u64 (u * 256) b = u * 256 + b := by
  obtain ⟨n, rfl⟩ : ∃ n : Nat, u = (n : Int) := ⟨u.toNat, by omega⟩
  obtain ⟨m, rfl⟩ : ∃ m : Nat, b = (m : Int) := ⟨b.toNat, by omega⟩
  have h := bits_or_u64_nat (n * 256) m (by omega) (by omega)
  rw [Int.natCast_mul] at h
  rw [show ((256 : Nat) : Int) = 256 from rfl] at h
  rw [h, show n * 256 = n <<< 8 by rw [Nat.shiftLeft_eq], ← Nat.shiftLeft_add_eq_or_of_lt (show m < 2 ^ 8 by omega), Nat.shiftLeft_eq]
  omega
set_option maxRecDepth 10000 in
theorem take_any (ao : Option Addr) (cap : Nat) (zs : List Int) (n : Nat) (hl : zs.length = n) (hn : n ≤ 1048576) (hB : Bytes zs) (p : Nat) (hp : p + 8 ≤ n) (w : World) (hR : ReadsI w .u8 ao zs) :
    Calls Tryd.prog 60 #[.slice ao n cap, .int .i64 (p : Nat)] w fun e w' => e = .returned (.tuple #[.int .u64 (wdZ zs p), .int .i64 0]) ∧ w = w' := by
  have HL := Lib.hid hl
  have HB := Lib.hid hB
  rcases hR with h0 | ⟨b, off, rfl, hc⟩
  · rw [h0] at hl; simp at hl; omega
  have HC := Lib.hid hc
  have hpi : decide ((n : Int) - 8 < (p : Int)) = false := decide_eq_false (by omega)
  have hpi2 : (p : Int) ≤ (n : Int) - 8 := by omega
  clear hl hB hc
  go_enter Tryd.func60, Tryd.ntmps60
  go_wp2_with (go_at_call 90; (with_reducible refine (size_any _).mono ?_); rintro e w4 ⟨rfl, rfl⟩)
  go_loop [7, 8] (fun u i => ∃ j : Nat, j ≤ 8 ∧ i = .int .i64 ((j : Int) - 1) ∧ u = .int .u64 (leV (((zs.drop p).take 8).drop (8 - (8 - j))))) (fun _ i => (intOf i + 1).toNat)
  case atStart => exact ⟨8, by omega, rfl, by rw [show leV (((zs.drop p).take 8).drop (8 - (8 - 8))) = 0 from wd_zero zs p]⟩
  case round =>
    obtain ⟨j, hj, rfl, rfl⟩ := hrel
    by_cases h0 : 0 < j
    · obtain ⟨k, rfl⟩ : ∃ k, j = k + 1 := ⟨j - 1, by omega⟩
      rw [show (((k + 1 : Nat) : Int) - 1) = (k : Int) by omega]
      obtain ⟨m, hm⟩ : ∃ m, 8 - (k + 1) = m := ⟨_, rfl⟩
      have hstep := wd_step zs p m (by omega) (by rw [HL.out]; exact hp)
      obtain ⟨hu1, hu2⟩ := wd_part zs HB.out p m (by omega)
      rw [show p + (7 - m) = p + k by omega] at hstep
      rw [hm]
      have x0 := HC.out (p + k) (by rw [HL.out]; omega)
      have hbb := HB.out (zs[p + k]?.getD 0) (by rw [List.getElem?_eq_getElem (by rw [HL.out]; omega)]; exact List.getElem_mem _)
      obtain ⟨u, hu⟩ : ∃ u, leV (((zs.drop p).take 8).drop (8 - m)) = u := ⟨_, rfl⟩
      obtain ⟨x, hx⟩ : ∃ x, zs[p + k]?.getD 0 = x := ⟨_, rfl⟩
      rw [hu] at hstep hu1 hu2 ⊢
      rw [hx] at hstep hbb x0
      obtain ⟨hb1, hb2⟩ := hbb
      have hor := or_byte u x hu1 hu2 hb1 hb2
      have HST := Lib.hid hstep
      have hpk : (p : Int) + (k : Int) < (n : Int) := by omega
      clear hstep hu hx
      go_wp2_with fail
      refine ⟨⟨k, by omega, rfl, ?_⟩, by simp [intOf]⟩
      rw [show 8 - k = m + 1 by omega, HST.out]
    · obtain rfl : j = 0 := by omega
      go_wp2_with fail
      go_ret2
      exact ⟨rfl, rfl⟩
end Go.Proofs.YtfoppbignompkaaDoor
