/-
  The law's same, spare and kept: contracts.
-/
import Derived.Test.YtfoppbignompkaaDoorCurB
import Derived.Deep.RegionHeldLaw
import Derived.Deep.AppendLies
namespace Go.Proofs.YtfoppbignompkaaDoor
open Go.RowKit

theorem same_self (i a d g : Int) (w : World) : (Op.equalIn 10000 36 (.agg #[.int .u32 i, .int .i64 a, .int .i64 d, .int .i64 g]) (.agg #[.int .u32 i, .int .i64 a, .int .i64 d, .int .i64 g])).run Tryd.prog w = .ok true w := by
  rw [eq_cur]
  simp
set_option maxRecDepth 100000 in
set_option maxHeartbeats 4000000 in
theorem same_any (ao bo : Option Addr) (n ca cb : Nat) (zs : List Cu) (hl : zs.length = n) (hn : n ≤ 140737488351232) (w : World) (hA : ReadsC w ao zs) (hB : ReadsC w bo zs) :
    Calls Tryd.prog 16 #[.slice ao n ca, .slice bo n cb] w fun r w' => r = .returned (.bool true) ∧ Below w.heap.size w w' := by
  have HA := Lib.hid hA
  have HB := Lib.hid hB
  have HL := Lib.hid hl
  have gc := guard_cur
  clear hA hB hl
  go_enter Tryd.func16, Tryd.ntmps16
  go_wp2_with fail
  go_loopw [5] (fun i wr => ∃ k : Nat, k ≤ n ∧ i = .int .i64 (k : Nat) ∧ Below w.heap.size w wr) (fun i _ => n - (intOf i).toNat)
  case atStart => exact ⟨0, Nat.zero_le _, rfl, Below.refl _ _⟩
  case round =>
    obtain ⟨k, hk, rfl, hb⟩ := hrel
    by_cases hlt : k < n
    · have hkz : k < zs.length := by rw [HL.out]; exact hlt
      rcases (HA.out.below hb) with h0 | ⟨g, o, rfl, hc⟩
      · rw [h0] at hkz; simp at hkz
      · rcases (HB.out.below hb) with h0 | ⟨g', o', rfl, hc'⟩
        · rw [h0] at hkz; simp at hkz
        · obtain ⟨x0, x1, x2, x3⟩ := hc k hkz
          obtain ⟨y0, y1, y2, y3⟩ := hc' k hkz
          obtain ⟨c, hcc⟩ : ∃ c, zs[k]?.getD cuZ = c := ⟨_, rfl⟩
          rw [hcc] at x0 x1 x2 x3 y0 y1 y2 y3
          obtain ⟨i, a, d, q⟩ := c
          simp only at x0 x1 x2 x3 y0 y1 y2 y3
          have hq := fun (w : World) => same_self i a d q w
          have hki : (k : Int) < (n : Int) := by omega
          have hk0 : (0 : Int) ≤ (k : Int) := by omega
          clear hc hc' hcc hkz
          go_wp2_with fail
          go_quiet (fail)
          all_goals go_wp2_with fail
          exact ⟨⟨k + 1, by omega, by go_num, below_drewN hb _⟩, by simp [intOf]; omega⟩
    · go_wp2_with fail
      go_ret
      exact ⟨rfl, hb⟩

/-- what an argument that is a slice of cursors gives -/
def SrcC (w : World) (ao : Option Addr) (cap : Nat) (zs : List Cu) : Prop :=
  (ao = none ∧ zs = [] ∧ cap = 0) ∨ ∃ ad, ao = some ad ∧ ∀ j u, (zs.flatMap cuC)[j]? = some u → w.cell? (ad.add j) = some u
theorem cells_readsC {w : World} {ad : Addr} {zs : List Cu} (hc : ∀ j u, (zs.flatMap cuC)[j]? = some u → w.cell? (ad.add j) = some u) : ReadsC w (some ad) zs := by
  cases zs with
  | nil => exact .inl rfl
  | cons z zs =>
    obtain ⟨b, off, spot⟩ := ad
    have h0 := hc 0 (.int .u32 z.1) (by simp [cuC])
    have hspot : spot = none := by simpa [Addr.add] using World.cell?_spot h0
    subst hspot
    refine .inr ⟨b, off, rfl, fun j hj => ?_⟩
    have key : ∀ i, i < 4 → w.cell? ⟨b, off + j * 4 + i, none⟩ = (cuC ((z :: zs)[j]?.getD cuZ))[i]? := fun i hi => by
      have h := flat4c_at (z :: zs) j i hj hi
      obtain ⟨u, hu⟩ : ∃ u, (cuC ((z :: zs)[j]?.getD cuZ))[i]? = some u := ⟨_, List.getElem?_eq_getElem (by simpa [cuC] using hi)⟩
      have := hc (j * 4 + i) u (h.trans hu)
      rw [Addr.add_lit, ← Nat.add_assoc] at this
      rw [this, hu]
    exact ⟨key 0 (by omega), key 1 (by omega), key 2 (by omega), key 3 (by omega)⟩
theorem SrcC.reads {w : World} {ao : Option Addr} {cap : Nat} {zs : List Cu} (h : SrcC w ao cap zs) : ReadsC w ao zs := by
  rcases h with ⟨_, rfl, _⟩ | ⟨ad, rfl, hc⟩
  · exact .inl rfl
  · exact cells_readsC hc
/-- the marks behind a spare list -/
def skC (k : Nat) : Cu := (((900 + k : Nat) : Int), 7, 0, 0)
def sksC (zs : List Cu) (k : Nat) : List Cu := zs ++ (List.range k).map skC
theorem sksC_len (zs : List Cu) (k : Nat) : (sksC zs k).length = zs.length + k := by simp [sksC]
theorem sksC_succ (zs : List Cu) (k : Nat) : (sksC zs k).flatMap cuC ++ cuC (skC k) = (sksC zs (k + 1)).flatMap cuC := by
  simp [sksC, List.range_succ]
theorem flat4c_one' (L : List Cu) : ∀ u ∈ L.flatMap cuC, u.oneCell' = true := by
  intro u hu
  obtain ⟨c, _, hc⟩ := List.mem_flatMap.1 hu
  exact cuC_one c u hc

set_option maxRecDepth 100000 in
set_option maxHeartbeats 4000000 in
theorem spareC_any (ao : Option Addr) (cap n : Nat) (zs : List Cu) (hl : zs.length = n) (hn : n ≤ 4398046510976) (w : World) (hA : SrcC w ao cap zs) :
    Calls Tryd.prog 13 #[.slice ao n cap] w fun r w' => ∃ g c, n + 12 ≤ c ∧ r = .returned (.slice (some ⟨g, 0, none⟩) n c) ∧ w'.ownsRow w.heap.size 36 4 (.slice (some ⟨g, 0, none⟩) (n + 12) c) (n + 12) ((sksC zs 12).flatMap cuC) ∧ Below w.heap.size w w' := by
  obtain ⟨i0, hi, hz0, hz1, hz2⟩ := info_parts info_cur
  have HA := Lib.hid (show (ao = none ∧ n = 0 ∧ cap = 0) ∨ ∃ ad, ao = some ad ∧ ∀ j u, (zs.flatMap cuC)[j]? = some u → w.cell? (ad.add j) = some u by
    rcases hA with ⟨h1, h2, h3⟩ | h
    · exact .inl ⟨h1, by rw [← hl, h2]; rfl, h3⟩
    · exact .inr h)
  have HL := Lib.hid hl
  clear hA hl
  go_enter Tryd.func13, Tryd.ntmps13
  go_wp2_with (at_builtin; refine wpList_append_src rfl _ _ 22 rfl w.heap.size 36 i0 (.agg #[.int .u32 0, .int .i64 0, .int .i64 0, .int .i64 0]) 4 32 Tryd.underlying22 hi hz0 hz1 hz2 rfl (by decide) (.slice none 0 0) 0 [] rfl (World.ownsRow_nil _ _ _ _) ao n cap (zs.flatMap cuC) rfl (by rw [flat4c_len, HL.out]) HA.out (flat4c_one' zs) (by unfold maxLen; omega) (by omega) (Nat.le_refl _) ?_; intro v2 w2 hown2 hgrow2 _)
  have hb2 : Below w.heap.size w w2 := (Below.refl _ _).grown hgrow2 (Nat.le_refl _) (fun q e => by cases e)
  have hx2 : w2.ownsRow w.heap.size 36 4 v2 (n + 0) ((sksC zs 0).flatMap cuC) := by
    rw [Nat.zero_add, List.nil_append] at hown2
    simpa [sksC] using hown2
  have HX2 := Lib.hid hx2
  clear hown2 hgrow2 hx2
  go_loopw [3, 4] (fun v i wr => ∃ k : Nat, k ≤ 12 ∧ i = .int .i64 (k : Nat) ∧ Hid (wr.ownsRow w.heap.size 36 4 v (n + k) ((sksC zs k).flatMap cuC)) ∧ Below w.heap.size w wr) (fun _ i _ => 12 - (intOf i).toNat)
  case atStart => exact ⟨0, by omega, rfl, HX2, hb2⟩
  case round =>
    clear HX2 hb2
    obtain ⟨k, hk, rfl, hx, hb⟩ := hrel
    by_cases hlt : k < 12
    · have hki : (k : Int) < 12 := by omega
      have hk0 : (0 : Int) ≤ (k : Int) := by omega
      have hcv : ((900 + (k : Int)) % 4294967296) = 900 + (k : Int) := by omega
      have HS := Lib.hid (sksC_succ zs k)
      go_wp2_with (at_builtin; refine wpList_append_own _ rfl _ _ 22 rfl w.heap.size 36 i0 (.agg #[.int .u32 0, .int .i64 0, .int .i64 0, .int .i64 0]) 4 32 Tryd.underlying22 hi hz0 hz1 hz2 rfl (by decide) u3 (n + k) _ rfl (hx.out.alloc _) ⟨wr.heap.size, 0, none⟩ 1 1 [.int .u32 (900 + (k : Int)), .int .i64 7, .int .i64 0, .int .i64 0] rfl (by simp) (cells_new _ _ _) (by simp [Value.oneCell']) (by unfold maxLen; omega) (by omega) (by rw [World.size_alloc]; have := hb.size; omega) ?_; intro v4 w4 hown4 hgrow4 _)
      exact ⟨⟨k + 1, by omega, by go_num, Lib.hid (by rw [← HS.out, ← Nat.add_assoc]; exact hown4), (al hb _).grown hgrow4 (by rw [World.size_alloc]; have := hb.size; omega) (fun q e => (hx.out.lt q e).1)⟩, by simp [intOf]; omega⟩
    · obtain rfl : k = 12 := by omega
      obtain ⟨g, c, hv⟩ : ∃ g c, u3 = .slice (some ⟨g, 0, none⟩) (n + 12) c := ownsRow_succ hx.out
      subst hv
      have hxo := hx.out
      have hnc : n + 12 ≤ c := by
        rcases hxo.2 with ⟨h, _⟩ | ⟨g', c', cur, h, _, _, h1, _⟩
        · cases h
        · injection h with _ _ e3; omega
      go_wp2_with fail
      go_ret
      exact ⟨g, c, hnc, rfl, hxo, hb⟩

theorem sksC_lt {zs : List Cu} {k m : Nat} (h : k < zs.length) : (sksC zs m)[k]?.getD cuZ = zs[k]?.getD cuZ := by
  unfold sksC
  rw [List.getElem?_append_left h]
theorem sksC_ge {zs : List Cu} {k m : Nat} (h : zs.length ≤ k) (h2 : k < zs.length + m) : (sksC zs m)[k]?.getD cuZ = skC (k - zs.length) := by
  unfold sksC
  rw [List.getElem?_append_right h, List.getElem?_map, List.getElem?_range (by omega)]
  rfl
/-- the row behind a spare list: what is asked of it -/
def SpareC (w : World) (g n : Nat) (zs : List Cu) : Prop := zs.length = n ∧ ∀ k, k < n + 12 → ∀ j, j < 4 → w.cell? ⟨g, k * 4 + j, none⟩ = (cuC ((sksC zs 12)[k]?.getD cuZ))[j]?
theorem SpareC.of_own {w : World} {base e g n c : Nat} {zs : List Cu} (hl : zs.length = n) (h : w.ownsRow base e 4 (.slice (some ⟨g, 0, none⟩) (n + 12) c) (n + 12) ((sksC zs 12).flatMap cuC)) : SpareC w g n zs :=
  ⟨hl, fun k hk j hj => by rw [h.cellAt (k * 4 + j) (by omega), flat4c_at _ k j (by rw [sksC_len]; omega) hj]⟩
theorem SpareC.below {w w' : World} {g n : Nat} {zs : List Cu} (h : SpareC w g n zs) (hb : Below w.heap.size w w') : SpareC w' g n zs :=
  ⟨h.1, fun k hk j hj => by
    obtain ⟨u, hu⟩ : ∃ u, (cuC ((sksC zs 12)[k]?.getD cuZ))[j]? = some u := ⟨_, List.getElem?_eq_getElem (by simpa [cuC] using hj)⟩
    have := h.2 k hk j hj
    rw [hu] at this ⊢
    exact cellKeep this hb⟩
theorem SpareC.reads {w : World} {g n : Nat} {zs : List Cu} (h : SpareC w g n zs) : ReadsC w (some ⟨g, 0, none⟩) zs := by
  obtain ⟨hl, hc⟩ := h
  refine .inr ⟨g, 0, rfl, fun j hj => ?_⟩
  have key : ∀ i, i < 4 → w.cell? ⟨g, 0 + j * 4 + i, none⟩ = (cuC (zs[j]?.getD cuZ))[i]? := fun i hi => by
    rw [Nat.zero_add, hc j (by omega) i hi, sksC_lt hj]
  exact ⟨key 0 (by omega), key 1 (by omega), key 2 (by omega), key 3 (by omega)⟩

end Go.Proofs.YtfoppbignompkaaDoor
