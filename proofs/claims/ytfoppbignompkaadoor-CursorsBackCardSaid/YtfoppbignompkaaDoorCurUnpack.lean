/-
  Unpack's contract.
-/
import Derived.Test.YtfoppbignompkaaDoorCurTake
import Derived.Lib.ConvBytes
namespace Go.Proofs.YtfoppbignompkaaDoor
open Go.RowKit

/-- the bytes of a text, as numbers -/
def zB (s : ByteArray) : List Int := (bs s).map fun b => (b.toNat : Int)
theorem zB_len (s : ByteArray) : (zB s).length = s.size := by unfold zB; rw [List.length_map, ← size_bs]
theorem zB_bytes (s : ByteArray) : Bytes (zB s) := by
  intro b hb
  obtain ⟨x, _, rfl⟩ := List.mem_map.1 hb
  have := x.toNat_lt
  omega
/-- the words read so far, zeros behind them -/
def vV (l : List Int) (p m : Nat) : List Value := (List.range 4).map fun j => Value.int .u64 (if j < m then wdZ l (p + 8 * j) else 0)
theorem vV_zero (l : List Int) (p : Nat) : vV l p 0 = [.int .u64 0, .int .u64 0, .int .u64 0, .int .u64 0] := rfl
theorem vV_full (l : List Int) (p : Nat) : vV l p 4 = [.int .u64 (wdZ l p), .int .u64 (wdZ l (p + 8)), .int .u64 (wdZ l (p + 16)), .int .u64 (wdZ l (p + 24))] := rfl
theorem vV_set (l : List Int) (p m : Nat) (hm : m < 4) : (vV l p m).set m (.int .u64 (wdZ l (p + 8 * m))) = vV l p (m + 1) := by
  match m, hm with
  | 0, _ => rfl
  | 1, _ => rfl
  | 2, _ => rfl
  | 3, _ => rfl
theorem vV_get (l : List Int) (p m : Nat) (hm : m < 4) : (vV l p m)[m]? = some (.int .u64 0) := by
  match m, hm with
  | 0, _ => rfl
  | 1, _ => rfl
  | 2, _ => rfl
  | 3, _ => rfl
theorem noneV_or {x : Option Nat} {y : Nat} (h : ∀ g, x = some g → g ≠ y) : x = none ∨ x ≠ some y := by
  rcases hx : x with _ | g
  · exact .inl rfl
  · exact .inr fun e => h g hx (Option.some.inj e)
theorem unp_step (l : List Int) (k : Nat) : (unpZ l k).flatMap cuC ++ cuC (curZ l k) = (unpZ l (k + 1)).flatMap cuC := by
  rw [unpZ_succ, List.flatMap_append]
  simp

set_option maxRecDepth 10000 in
set_option maxHeartbeats 8000000 in
theorem unpack_any (s : ByteArray) (hs : s.size ≤ 140737488351232) (w : World) :
    Calls Tryd.prog 33 #[.string s] w fun e w' => ∃ v, e = .returned (.tuple #[v, .int .i64 (unpackV (zB s)).1]) ∧ w'.ownsRow w.heap.size 36 4 v (unpackV (zB s)).2.length ((unpackV (zB s)).2.flatMap cuC) ∧ Below w.heap.size w w' := by
  obtain ⟨i0, hi, hz0, hz1, hz2⟩ := info_parts info_cur
  obtain ⟨r, hr⟩ : ∃ r : Nat, s.size % 32 = r := ⟨_, rfl⟩
  have hri : (s.size : Int).tmod 32 = (r : Int) := by rw [← hr]; exact (Int.ofNat_tmod s.size 32).symm
  have HL := zB_len s
  by_cases h1 : r ≠ 0
  · have hv : unpackV (zB s) = (200, []) := by unfold unpackV; rw [if_pos (by rw [HL, hr]; exact h1)]
    rw [hv]
    have hr0 : ((r : Int) != 0) = true := bne_iff_ne.2 (by omega)
    clear HL hv hr
    go_enter Tryd.func33, Tryd.ntmps33
    go_wp2_with fail
    go_ret2
    exact ⟨_, rfl, World.ownsRow_nil _ _ _ _, Below.refl _ _⟩
  · obtain rfl : r = 0 := by omega
    rw [show ((0 : Nat) : Int) = 0 from rfl] at hri
    by_cases h2 : 256 < s.size
    · have hv : unpackV (zB s) = (201, []) := by unfold unpackV; rw [if_neg (by rw [HL, hr]; simp), if_pos (by rw [HL]; exact h2)]
      rw [hv]
      have h2i : (256 : Int) < (s.size : Int) := by omega
      clear HL hv hr
      go_enter Tryd.func33, Tryd.ntmps33
      go_wp2_with fail
      go_ret2
      exact ⟨_, rfl, World.ownsRow_nil _ _ _ _, Below.refl _ _⟩
    · have h2i : decide (256 < (s.size : Int)) = false := decide_eq_false (by omega)
      have h2n : decide (256 < s.size) = false := decide_eq_false h2
      have HV := Lib.hid (show unpackV (zB s) = if (unpZ (zB s) (s.size / 32)).any bigC then (200, []) else if wrongN (unpZ (zB s) (s.size / 32)) ≠ 0 then (200, []) else (0, unpZ (zB s) (s.size / 32)) by unfold unpackV; rw [if_neg (by rw [HL, hr]; simp), if_neg (by rw [HL]; omega), HL])
      obtain ⟨n, hn⟩ : ∃ n, s.size / 32 = n := ⟨_, rfl⟩
      have hsn : s.size = 32 * n := by omega
      have hn8 : n ≤ 8 := by omega
      have hs256 : s.size ≤ 256 := by omega
      rw [hn] at HV
      have HC := Lib.hid (fun w => Lib.run_convert_string_bytes (P := Tryd.prog) w 9 86 5 s Tryd.underlying9 Tryd.underlying86 Tryd.underlying5)
      have hconv := HC.out w
      have HSN := Lib.hid hsn
      have HZB := Lib.hid (zB_bytes s)
      have HZL := Lib.hid HL
      clear hr hn HC hsn HL
      go_enter Tryd.func33, Tryd.ntmps33
      go_wp2_with fail
      have hRB : ReadsI (Lib.bytesWorld w 5 s) .u8 (some ⟨w.heap.size, 0, none⟩) (zB s) := by
        refine .inr ⟨w.heap.size, 0, rfl, fun j hj => ?_⟩
        have hj2 : j < s.size := by rw [← HZL.out]; exact hj
        rw [Nat.zero_add, Lib.bytesWorld_cell w 5 s j hj2]
        unfold zB
        rw [List.getElem?_map, List.getD]
        have hj3 : j < (bs s).length := by rw [← size_bs]; exact hj2
        rw [List.getElem?_eq_getElem (show j < s.data.toList.length from hj3)]
        rfl
      have hb1 : Below w.heap.size w (Lib.bytesWorld w 5 s) := by
        exact ⟨rfl, rfl, rfl, by rw [Lib.bytesWorld_size]; exact Nat.le_succ _, fun k hk => Lib.bytesWorld_at_old w _ s k hk⟩
      obtain ⟨cb, hcb⟩ : ∃ cb, grownCap w s.size 0 5 = cb := ⟨_, rfl⟩
      obtain ⟨W1, hW1⟩ : ∃ W1, Lib.bytesWorld w 5 s = W1 := ⟨_, rfl⟩
      obtain ⟨B, hB⟩ : ∃ B, w.heap.size = B := ⟨_, rfl⟩
      rw [hW1] at hRB hb1 ⊢
      rw [hB] at hRB
      rw [hB, hcb]
      have HRB := Lib.hid hRB
      have hszB := hb1.size
      clear hconv hcb hW1 hRB hB h1 h2 h2i h2n hri
      have HZ := Lib.hid (show ∀ j, j < n → curZ (zB s) j = (wdZ (zB s) (32 * j), wdZ (zB s) (32 * j + 8), wdZ (zB s) (32 * j + 16), wdZ (zB s) (32 * j + 24)) from fun _ _ => rfl)
      go_loopw [4, 6] (fun v i wr => ∃ k p : Nat, i = .int .i64 (p : Nat) ∧ p = 32 * k ∧ k ≤ n ∧ Hid (∀ j, j < k → bigC (curZ (zB s) j) = false) ∧ Hid (wr.ownsRow W1.heap.size 36 4 v k ((unpZ (zB s) k).flatMap cuC)) ∧ Below W1.heap.size W1 wr) (fun _ i _ => s.size - (intOf i).toNat)
      case atStart => exact ⟨0, 0, rfl, rfl, Nat.zero_le _, Lib.hid (fun j hj => by omega), Lib.hid (World.ownsRow_nil _ _ _ _), Below.refl _ _⟩
      case round =>
        obtain ⟨k, p, rfl, hp, hk, hok, hO, hb⟩ := hrel
        have hsz := HSN.out
        by_cases hlt : k < n
        · have hpi : (p : Int) < (s.size : Int) := by omega
          have hpn : p + 32 ≤ s.size := by omega
          have HP := Lib.hid hp
          clear hp hsz
          obtain ⟨wo, rfl⟩ : ∃ wo : World, wo = wr := ⟨_, rfl⟩
          go_wp2_with fail
          have hVB := Blk.new wo 93 (vV (zB s) p 0)
          have hOX := Lib.hid (hO.out.alloc (.cells #[.int .u64 0, .int .u64 0, .int .u64 0, .int .u64 0] 93))
          have hbX := al hb (.cells #[.int .u64 0, .int .u64 0, .int .u64 0, .int .u64 0] 93)
          have hne : ∀ q, u4.ownBlock = some q → q ≠ wo.heap.size := fun q e => by have := (hO.out.lt q e).2; omega
          have hBl : W1.heap.size ≤ wo.heap.size := hb.size
          obtain ⟨vb, hvb⟩ : ∃ vb, wo.heap.size = vb := ⟨_, rfl⟩
          obtain ⟨X, hX⟩ : ∃ X, wo.alloc (.cells #[.int .u64 0, .int .u64 0, .int .u64 0, .int .u64 0] 93) = X := ⟨_, rfl⟩
          have hVX : Blk X vb 93 (vV (zB s) p 0) := by rw [← hX, ← hvb]; exact hVB
          rw [hX] at hOX hbX ⊢
          rw [hvb] at hne hBl
          rw [hvb]
          have HNE := Lib.hid hne
          clear hX hvb hVB hO hb hne
          go_loopw [24] (fun j V => ∃ m : Nat, j = .int .i64 (m : Nat) ∧ m ≤ 4 ∧ Blk V vb 93 (vV (zB s) p m) ∧ Hid (V.ownsRow W1.heap.size 36 4 u4 k ((unpZ (zB s) k).flatMap cuC)) ∧ Below W1.heap.size W1 V) (fun j _ => 4 - (intOf j).toNat)
          case atStart => exact ⟨0, rfl, by omega, hVX, hOX, hbX⟩
          case round =>
            clear hVX hOX hbX
            obtain ⟨m, rfl, hm, hVX, hOX, hbX⟩ := hrel
            by_cases hm4 : m < 4
            · have hmi : (m : Int) < 4 := by omega
              have hm0 : (0 : Int) ≤ (m : Int) := by omega
              obtain ⟨q, hq⟩ : ∃ q, p + 8 * m = q := ⟨_, rfl⟩
              have hqi : (p : Int) + 8 * (m : Int) = (q : Int) := by omega
              have HTK := Lib.hid (take_any (some ⟨B, 0, none⟩) cb (zB s) s.size HZL.out (by omega) HZB.out q (by omega) wr (HRB.out.below hbX (Nat.le_refl _)))
              have HVS := Lib.hid (vV_set (zB s) p m hm4)
              have c0 := hVX.cell m (vV_get (zB s) p m hm4)
              have f0 := hVX.frozen m
              have HX := Lib.hid hVX
              rw [hq] at HVS
              obtain ⟨x, hx⟩ : ∃ x, wdZ (zB s) q = x := ⟨_, rfl⟩
              rw [hx] at HTK HVS
              clear hq hx hVX
              go_wp2_with (go_at_call 60; (with_reducible refine HTK.out.mono ?_); rintro e w4 ⟨rfl, rfl⟩)
              exact ⟨⟨m + 1, by go_num, by omega, by rw [← HVS.out]; exact HX.out.set m (.int .u64 x), Lib.hid (hOX.out.kept (grownBy_set _ vb m _) (noneV_or HNE.out)), hbX.setCell (p := ⟨vb, m, none⟩) hBl _⟩, by simp [intOf]; omega⟩
            · obtain rfl : m = 4 := by omega
              rw [show ((4 : Nat) : Int) = 4 from rfl]
              rw [vV_full] at hVX
              have c0 := hVX.cell 0 rfl
              have c1 := hVX.cell 1 rfl
              have c2 := hVX.cell 2 rfl
              have c3 := hVX.cell 3 rfl
              have HCZ := Lib.hid (HZ.out k hlt)
              rw [← HP.out] at HCZ
              obtain ⟨b0, b0'⟩ := wdZ_bound (zB s) HZB.out p (by rw [HZL.out]; omega)
              obtain ⟨b1, b1'⟩ := wdZ_bound (zB s) HZB.out (p + 8) (by rw [HZL.out]; omega)
              obtain ⟨b2, b2'⟩ := wdZ_bound (zB s) HZB.out (p + 16) (by rw [HZL.out]; omega)
              obtain ⟨b3, b3'⟩ := wdZ_bound (zB s) HZB.out (p + 24) (by rw [HZL.out]; omega)
              obtain ⟨x0, hx0⟩ : ∃ x, wdZ (zB s) p = x := ⟨_, rfl⟩
              obtain ⟨x1, hx1⟩ : ∃ x, wdZ (zB s) (p + 8) = x := ⟨_, rfl⟩
              obtain ⟨x2, hx2⟩ : ∃ x, wdZ (zB s) (p + 16) = x := ⟨_, rfl⟩
              obtain ⟨x3, hx3⟩ : ∃ x, wdZ (zB s) (p + 24) = x := ⟨_, rfl⟩
              rw [hx0] at c0 b0 b0' HCZ
              rw [hx1] at c1 b1 b1' HCZ
              rw [hx2] at c2 b2 b2' HCZ
              rw [hx3] at c3 b3 b3' HCZ
              clear hx0 hx1 hx2 hx3 hVX
              obtain ⟨y1, hy1⟩ : ∃ y, (if x1 < x2 then x2 else x1) = y := ⟨_, rfl⟩
              obtain ⟨y, hy⟩ : ∃ y', (if y1 < x3 then x3 else y1) = y' := ⟨_, rfl⟩
              have hyb : (9223372036854775807 < y ↔ (9223372036854775807 < x1 ∨ 9223372036854775807 < x2 ∨ 9223372036854775807 < x3)) := by
                rw [← hy, ← hy1]
                repeat' split
                all_goals omega
              have HBIG := Lib.hid (show bigC (curZ (zB s) k) = decide (4294967295 < x0 ∨ 9223372036854775807 < x1 ∨ 9223372036854775807 < x2 ∨ 9223372036854775807 < x3) by rw [HCZ.out]; rfl)
              by_cases hbig : 4294967295 < x0 ∨ 9223372036854775807 < y
              · have HVV := Lib.hid (show unpackV (zB s) = (200, []) by
                  rw [HV.out, if_pos]
                  rw [List.any_eq_true]
                  refine ⟨curZ (zB s) k, List.mem_map.2 ⟨k, List.mem_range.2 hlt, rfl⟩, ?_⟩
                  rw [HBIG.out, decide_eq_true_eq]
                  omega)
                by_cases h0 : 4294967295 < x0
                · clear hbig hyb
                  go_wp2_with fail
                  go_ret2
                  exact ⟨.slice none 0 0, by rw [HVV.out]; rfl, by rw [HVV.out]; exact World.ownsRow_nil _ _ _ _, hb1.trans (hbX.mono hszB)⟩
                · have h0d : decide (4294967295 < x0) = false := decide_eq_false h0
                  have hyy : 9223372036854775807 < y := by omega
                  clear hbig hyb h0
                  go_wp2_with fail
                  go_ret2
                  exact ⟨.slice none 0 0, by rw [HVV.out]; rfl, by rw [HVV.out]; exact World.ownsRow_nil _ _ _ _, hb1.trans (hbX.mono hszB)⟩
              · have h0d : decide (4294967295 < x0) = false := decide_eq_false (by omega)
                have hyd : decide (9223372036854775807 < y) = false := decide_eq_false (by omega)
                have hx0' : x0 ≤ 4294967295 := by omega
                have hx1' : x1 ≤ 9223372036854775807 := by omega
                have hx2' : x2 ≤ 9223372036854775807 := by omega
                have hx3' : x3 ≤ 9223372036854775807 := by omega
                have HOK := Lib.hid (show bigC (curZ (zB s) k) = false by rw [HBIG.out]; exact decide_eq_false (by omega))
                have HST := Lib.hid (unp_step (zB s) k)
                rw [HCZ.out] at HST
                have hszX := hbX.size
                clear hbig hyb b0' b1' b2' b3'
                go_wp2_with (at_builtin; refine wpList_append_own _ rfl _ _ 22 rfl W1.heap.size 36 i0 (.agg #[.int .u32 0, .int .i64 0, .int .i64 0, .int .i64 0]) 4 32 Tryd.underlying22 hi hz0 hz1 hz2 rfl (by decide) u4 _ _ rfl (hOX.out.alloc _) ⟨wr.heap.size, 0, none⟩ 1 1 [.int .u32 x0, .int .i64 x1, .int .i64 x2, .int .i64 x3] rfl (by simp) (cells_new _ _ _) (by simp [Value.oneCell']) (by unfold maxLen; omega) (by omega) (by rw [World.size_alloc]; omega) ?_; intro v4 w4 hown4 hgrow4 _)
                have hb4 : Below W1.heap.size W1 w4 := (al hbX _).grown hgrow4 (by rw [World.size_alloc]; omega) (fun q e => (hOX.out.lt q e).1)
                exact ⟨⟨k + 1, p + 32, by go_num, by rw [HP.out]; omega, by omega, Lib.hid (fun j hj => by rcases Nat.lt_succ_iff_lt_or_eq.1 hj with h | rfl; exact hok.out j h; exact HOK.out), Lib.hid (by rw [← HST.out]; exact hown4), hb4⟩, by simp [intOf]; omega⟩
        · obtain rfl : k = n := by omega
          have hps : p = s.size := by omega
          subst hps
          have hbn : (unpZ (zB s) k).any bigC = false := by
            cases hc : (unpZ (zB s) k).any bigC
            · rfl
            · obtain ⟨x, hx, h2⟩ := List.any_eq_true.1 hc
              obtain ⟨j, hj, rfl⟩ := List.mem_map.1 hx
              rw [hok.out j (List.mem_range.1 hj)] at h2
              cases h2
          have HVV := Lib.hid (show unpackV (zB s) = if wrongN (unpZ (zB s) k) ≠ 0 then (200, []) else (0, unpZ (zB s) k) by rw [HV.out, if_neg (by rw [hbn]; simp)])
          have hlen := unpZ_len (zB s) k
          obtain ⟨a5, c5, e5, hl5, hr5⟩ := ReadsC.owned hO.out
          rw [hlen] at e5
          subst e5
          have HW := Lib.hid (cwrong_any a5 c5 (unpZ (zB s) k) k hlen (by omega) wr hr5)
          obtain ⟨er, her⟩ : ∃ er, wrongN (unpZ (zB s) k) = er := ⟨_, rfl⟩
          rw [her] at HW HVV
          have HLEN := Lib.hid hlen
          clear hbn her hl5 hr5 hlen hsz
          by_cases hz : er = 0
          · subst hz
            have HV2 := Lib.hid (show unpackV (zB s) = (0, unpZ (zB s) k) by rw [HVV.out, if_neg (by simp)])
            go_wp2_with (go_at_call 40; (with_reducible refine HW.out.mono ?_); rintro e w6 ⟨rfl, hb6⟩)
            go_ret2
            refine ⟨_, by rw [HV2.out]; rfl, ?_, (hb1.trans (hb.mono hszB)).trans (hb6.mono (Nat.le_trans hszB hb.size))⟩
            rw [HV2.out]
            show w6.ownsRow _ _ _ _ (unpZ (zB s) k).length ((unpZ (zB s) k).flatMap cuC)
            rw [HLEN.out]
            exact owns_base (owns_below hO.out hb6 (Nat.le_refl _)) hszB
          · have HV2 := Lib.hid (show unpackV (zB s) = (200, []) by rw [HVV.out, if_pos hz])
            have hne : (er != 0) = true := bne_iff_ne.2 hz
            clear hz
            go_wp2_with (go_at_call 40; (with_reducible refine HW.out.mono ?_); rintro e w6 ⟨rfl, hb6⟩)
            go_ret2
            exact ⟨.slice none 0 0, by rw [HV2.out]; rfl, by rw [HV2.out]; exact World.ownsRow_nil _ _ _ _, (hb1.trans (hb.mono hszB)).trans (hb6.mono (Nat.le_trans hszB hb.size))⟩
end Go.Proofs.YtfoppbignompkaaDoor
