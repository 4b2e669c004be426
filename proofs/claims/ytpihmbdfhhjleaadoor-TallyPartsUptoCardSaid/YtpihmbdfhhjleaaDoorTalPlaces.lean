/-
  The law's own places: rising, within the text.
-/
import Derived.Test.YtpihmbdfhhjleaaDoorTalWhole1
namespace Go.Proofs.YtpihmbdfhhjleaaDoor
open Go.RowKit

theorem within_any (i : Int) (hi : -9223372036854775808 ≤ i ∧ i ≤ 9223372036854775807) (n : Nat) (h0 : 0 < n) (hn : n ≤ 1125899906842624) (c : Nat) (hc : (i % (n : Int)).toNat = c) (w : World) :
    Calls Tryd.prog 38 #[.int .i64 i, .int .i64 n] w fun e w' => e = .returned (.int .i64 (c : Int)) ∧ w' = w := by
  have hz : (n : Int) ≠ 0 := by omega
  have hm := Int.emod_nonneg i hz
  have hm2 := Int.emod_lt_of_pos i (show (0 : Int) < n by omega)
  by_cases hneg : i.tmod n < 0
  · have he : i.tmod n + n = i % n := by
      have h1 := Int.neg_tmod (-i) n
      rw [Int.neg_neg] at h1
      have h2 : 0 ≤ -i := by
        by_cases h : 0 ≤ i
        · rw [Int.tmod_eq_emod_of_nonneg h] at hneg; omega
        · omega
      rw [Int.tmod_eq_emod_of_nonneg h2] at h1
      have h3 := Int.emod_nonneg (-i) hz
      have h4 := Int.emod_lt_of_pos (-i) (show (0 : Int) < n by omega)
      have h7 := Int.emod_add_mul_ediv (-i) n
      rw [h1]
      have h8 : (-i) % n ≠ 0 := by omega
      have h9 : i % n = (-( (-i) % n)) % n := by
        have : i = -((-i) % n) + n * -((-i) / n) := by rw [Int.mul_neg]; omega
        conv => lhs; rw [this]
        rw [Int.add_mul_emod_self_left]
      have h10 : (-((-i) % n)) % n = n - (-i) % n := by
        have e : -((-i) % n) = (n - (-i) % n) + n * (-1) := by omega
        rw [e, Int.add_mul_emod_self_left, Int.emod_eq_of_lt (by omega) (by omega)]
      rw [h9, h10]; omega
    have H := Lib.hid (show i.tmod n + n = (c : Int) by rw [he]; omega)
    have hb : i.tmod n + n ≤ 1125899906842624 ∧ 0 ≤ i.tmod n + n := by rw [he]; omega
    obtain ⟨t, ht⟩ : ∃ t, i.tmod n = t := ⟨_, rfl⟩
    rw [ht] at H hneg hb
    clear he hm hm2 hc
    go_enter Tryd.func38, Tryd.ntmps38
    go_wp2_with fail
    go_ret
    rw [H.out]
    exact ⟨rfl, rfl⟩
  · have he : i.tmod n = i % n := by
      by_cases h : 0 ≤ i
      · exact Int.tmod_eq_emod_of_nonneg h
      · have h1 := Int.neg_tmod (-i) n
        rw [Int.neg_neg] at h1
        rw [Int.tmod_eq_emod_of_nonneg (show 0 ≤ -i by omega)] at h1
        have h3 := Int.emod_nonneg (-i) hz
        have h4 : (-i) % n = 0 := by omega
        have h5 : i.tmod n = 0 := by omega
        have h7 := Int.emod_add_mul_ediv (-i) n
        have : i = 0 + n * -((-i) / n) := by rw [Int.mul_neg]; omega
        rw [h5]
        conv => rhs; rw [this]
        rw [Int.add_mul_emod_self_left]; simp
    have H := Lib.hid (show i.tmod n = (c : Int) by rw [he]; omega)
    obtain ⟨t, ht⟩ : ∃ t, i.tmod n = t := ⟨_, rfl⟩
    rw [ht] at H hneg
    clear he hm hm2 hc
    go_enter Tryd.func38, Tryd.ntmps38
    go_wp2_with fail
    go_ret
    rw [H.out]
    exact ⟨rfl, rfl⟩

theorem info_i64 : (Tryd.prog.info? 3).map (fun i => (i.zero, i.size, i.bytes)) = some (some (.int .i64 0), 1, 8) := by kernel_rfl

theorem zsI_snoc (cs : List Nat) (c : Nat) : (zsI (cs ++ [c])).map (Value.int .i64) = (zsI cs).map (Value.int .i64) ++ [.int .i64 (c : Int)] := by simp [zsI]
theorem rise_snoc {cs : List Nat} {m c : Nat} (h : Rise cs m) (h1 : pf cs cs.length ≤ c) (h2 : c ≤ m) : Rise (cs ++ [c]) m := by
  intro i hi
  have hi2 : i < cs.length + 1 := by simpa using hi
  have hpf : pf (cs ++ [c]) i = pf cs i := by
    unfold pf
    split
    · rfl
    · rw [List.getElem?_append_left (by omega)]
  rw [hpf]
  by_cases e : i < cs.length
  · rw [List.getElem?_append_left e]; exact h i e
  · obtain rfl : i = cs.length := by omega
    rw [List.getElem?_append_right (Nat.le_refl _)]
    simp
    exact ⟨h1, h2⟩
theorem pf_snoc (cs : List Nat) (c : Nat) : pf (cs ++ [c]) (cs.length + 1) = c := by
  rw [pf_succ, List.getElem?_append_right (Nat.le_refl _)]; simp

set_option maxHeartbeats 1000000 in
theorem tplaces_any (s : ByteArray) (hs : s.size ≤ 140737488351232) (ao : Option Addr) (cap n : Nat) (zs : List Int) (hl : zs.length = n) (hn : n * 8 ≤ 140737488351232) (hz : ∀ z ∈ zs, -9223372036854775808 ≤ z ∧ z ≤ 9223372036854775807) (w : World) (hA : SrcI w .i64 ao cap zs) :
    Calls Tryd.prog 27 #[.string s, .slice ao n cap] w fun r w' => ∃ v cs, r = .returned v ∧ cs.length = n ∧ Rise cs s.size ∧ w'.ownsRow w.heap.size 3 1 v n ((zsI cs).map (Value.int .i64)) ∧ Below w.heap.size w w' := by
  obtain ⟨i0, hi, hz0, hz1, hz2⟩ := info_parts info_i64
  have HA := Lib.hid hA
  have HL := Lib.hid hl
  have HZ := Lib.hid hz
  clear hA hl hz
  go_enter Tryd.func27, Tryd.ntmps27
  go_wp2_with fail
  go_loopw [5, 6, 7] (fun v f i wr => ∃ cs, cs.length ≤ n ∧ i = .int .i64 (cs.length : Nat) ∧ f = .int .i64 (pf cs cs.length : Nat) ∧ Hid (Rise cs s.size) ∧ Hid (wr.ownsRow w.heap.size 3 1 v cs.length ((zsI cs).map (Value.int .i64))) ∧ Below w.heap.size w wr) (fun _ _ i _ => n - (intOf i).toNat)
  case atStart => exact ⟨[], Nat.zero_le _, rfl, rfl, (show Hid _ from fun i hi => by simp at hi), World.ownsRow_nil _ _ _ _, Below.refl _ _⟩
  case round =>
    obtain ⟨cs, hk, rfl, rfl, hr, hown, hb⟩ := hrel
    obtain ⟨k, hkk⟩ : ∃ k, cs.length = k := ⟨_, rfl⟩
    rw [hkk] at hk ⊢
    by_cases hkn : k < n
    · have HB := Lib.hid (HA.out.below hb (Nat.le_refl _))
      rcases HB.out.reads with h0 | ⟨g, o, rfl, hc⟩
      · have := congrArg List.length h0
        rw [HL.out] at this
        simp at this
        omega
      · have hck := hc k (by rw [HL.out]; exact hkn)
        obtain ⟨z, hzz⟩ : ∃ z, zs[k]?.getD 0 = z := ⟨_, rfl⟩
        have hzb : -9223372036854775808 ≤ z ∧ z ≤ 9223372036854775807 := by
          rw [← hzz, List.getElem?_eq_getElem (by rw [HL.out]; exact hkn)]
          exact HZ.out _ (List.getElem_mem _)
        rw [hzz] at hck
        have hpl := pf_le hr.out (k := k) (by omega)
        obtain ⟨q, hq⟩ : ∃ q, pf cs k = q := ⟨_, rfl⟩
        rw [hq] at hpl ⊢
        obtain ⟨m, hm⟩ : ∃ m, s.size - q + 1 = m := ⟨_, rfl⟩
        have hmI : (s.size : Int) - (q : Int) + 1 = (m : Int) := by omega
        have hm0 := Int.emod_nonneg z (show (m : Int) ≠ 0 by omega)
        have hm2 := Int.emod_lt_of_pos z (show (0 : Int) < m by omega)
        obtain ⟨c, hcc⟩ : ∃ c, (z % (m : Int)).toNat = c := ⟨_, rfl⟩
        have HWI := within_any z hzb m (by omega) (by omega) c hcc
        have hcm : q + c ≤ s.size := by omega
        have HWI := Lib.hid HWI
        have hr2 := Lib.hid (rise_snoc (c := q + c) hr.out (by rw [hkk, hq]; omega) hcm)
        have hpf2 := Lib.hid (pf_snoc cs (q + c))
        have hki : (k : Int) < (n : Int) := by omega
        have hk0 : (0 : Int) ≤ (k : Int) := by omega
        have HK := Lib.hid hkk
        have hown := Lib.hid (show wr.ownsRow w.heap.size 3 1 u5 k ((zsI cs).map (Value.int .i64)) by rw [← hkk]; exact hown.out)
        have hw1 : IntKind.i64.wrap ((s.size : Int) - (q : Int)) = (s.size : Int) - (q : Int) := by rw [IntKind.wrap_i64]; omega
        clear hzz hq hm hcc hkk hm0 hm2 hc
        have hsz := hb.size
        go_wp2_with (first | (go_at_call 38; (with_reducible refine (HWI.out _).mono ?_); rintro r w3 ⟨rfl, rfl⟩) | (at_builtin; refine wpList_append_own _ rfl _ _ 42 rfl w.heap.size 3 i0 (.int .i64 0) 1 8 Tryd.underlying42 hi hz0 hz1 hz2 rfl (by decide) u5 _ _ rfl (hown.out.alloc _) ⟨w3.heap.size, 0, none⟩ 1 1 [.int .i64 ((q : Int) + (c : Int))] rfl (by simp) (cells_new _ _ _) (by simp [Value.oneCell']) (by unfold maxLen; omega) (by omega) (by simp; omega) ?_; intro v' w9 hown' hgrow _))
        have hbg := (al hb (.cells #[.int .i64 ((q : Int) + (c : Int))] 3)).grown hgrow (by simp; omega) (fun q e => (hown.out.lt q e).1)
        have hlen : (cs ++ [q + c]).length = k + 1 := by rw [List.length_append, HK.out]; rfl
        have h9 : w9.ownsRow w.heap.size 3 1 v' (cs ++ [q + c]).length ((zsI (cs ++ [q + c])).map (Value.int .i64)) := by
          rw [hlen, zsI_snoc, show ((q + c : Nat) : Int) = (q : Int) + (c : Int) from by omega]
          exact hown'
        refine ⟨⟨cs ++ [q + c], by omega, by rw [hlen]; go_num, ?_, hr2.out, Lib.hid h9, hbg⟩, by simp [intOf]; omega⟩
        rw [hlen, ← HK.out, hpf2.out]; rfl
    · obtain rfl : k = n := by omega
      go_wp2_with fail
      go_ret
      exact ⟨_, cs, rfl, hkk, hr.out, by rw [← hkk]; exact hown.out, hb⟩
end Go.Proofs.YtpihmbdfhhjleaaDoor
