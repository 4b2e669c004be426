/-
  ApartTexts over two lists of texts that lie apart: its contract.
-/
import Derived.Test.YtebmjmohhpkonaaDoorMark
import Derived.Test.YtebmjmohhpkonaaDoorHeldRow
import Derived.Test.YtebmjmohhpkonaaDoorLater
namespace Go.Proofs.YtebmjmohhpkonaaDoor
open Go.RowKit

/-- marks in a row -/
def mkL (i m : Nat) : List Value := (List.range m).map fun k => Value.string (tM i k)
theorem mkL_len (i m : Nat) : (mkL i m).length = m := by unfold mkL; simp
theorem mkL_succ (i m : Nat) : mkL i (m + 1) = mkL i m ++ [.string (tM i m)] := by unfold mkL; rw [List.range_succ, List.map_append]; rfl
theorem mkL_get (i m k : Nat) (h : k < m) : (mkL i m)[k]? = some (.string (tM i k)) := by
  unfold mkL
  rw [List.getElem?_map, List.getElem?_range h]
  rfl
/-- the first m marked -/
def mixM (i m : Nat) (xs : List Value) : List Value := mkL i m ++ xs.drop m
theorem mixM_zero (i : Nat) (xs : List Value) : mixM i 0 xs = xs := by simp [mixM, mkL]
theorem mixM_full (i n : Nat) (xs : List Value) (h : xs.length = n) : mixM i n xs = mkL i n := by
  unfold mixM
  rw [List.drop_of_length_le (by omega), List.append_nil]
theorem mixM_set (i k : Nat) (xs : List Value) (h : k < xs.length) : (mixM i k xs).set k (.string (tM i k)) = mixM i (k + 1) xs := by
  unfold mixM
  rw [List.set_append_right _ _ (by rw [mkL_len]; exact Nat.le_refl _), mkL_len, Nat.sub_self, List.drop_eq_getElem_cons h, List.set_cons_zero, mkL_succ, List.append_assoc]
  rfl
def upd {α : Type} (f : Nat → α) (i : Nat) (x : α) : Nat → α := fun j => if j = i then x else f j
theorem upd_same {α : Type} (f : Nat → α) (i : Nat) (x : α) : upd f i x i = x := if_pos rfl
theorem upd_other {α : Type} (f : Nat → α) (i j : Nat) (x : α) (h : j ≠ i) : upd f i x j = f j := if_neg h

/-- the lists' blocks lie apart -/
def ApartB (v : Nat → Value) : Prop := ∀ i j g, i ≠ j → i < 2 → j < 2 → (v i).ownBlock = some g → (v j).ownBlock ≠ some g

/-- the lists, marked up to m -/
structure Ma (B L n : Nat) (v : Nat → Value) (xs : Nat → List Value) (m : Nat → Nat) (W0 W : World) : Prop where
  row : ∀ j, j < 2 → HRow W B 9 1 (v j) n (mixM j (m j) (xs j))
  cel : ∀ j, j < 2 → W.cell? ⟨L, j, none⟩ = some (v j)
  bel : Below B W0 W
  siz : W0.heap.size ≤ W.heap.size

theorem Ma.below {B L n : Nat} {v : Nat → Value} {xs : Nat → List Value} {m : Nat → Nat} {W0 W W' : World} (h : Ma B L n v xs m W0 W) (hb : Below W.heap.size W W') (hB : B ≤ W.heap.size) : Ma B L n v xs m W0 W' :=
  ⟨fun j hj => (h.row j hj).below hb (Nat.le_refl _), fun j hj => cellKeep (h.cel j hj) hb, h.bel.trans (hb.mono hB), Nat.le_trans h.siz hb.size⟩

theorem Ma.step {B L n : Nat} {v : Nat → Value} {xs : Nat → List Value} {m : Nat → Nat} {W0 W : World} (h : Ma B L n v xs m W0 W) (hA : ApartB v) (hx : ∀ j, j < 2 → (xs j).length = n) (hL : ∀ j, j < 2 → (v j).ownBlock ≠ some L)
    {i k g c : Nat} (hi : i < 2) (hk : k < n) (hm : m i = k) (hv : v i = .slice (some ⟨g, 0, none⟩) n c) :
    Ma B L n v xs (upd m i (k + 1)) W0 (W.setCell ⟨g, k, none⟩ (.string (tM i k))) := by
  have hr := h.row i hi
  rw [hv] at hr
  obtain ⟨hr1, hr2⟩ := hr.stored k (.string (tM i k))
  have hgB : B ≤ g := (hr.lt g rfl).1
  refine ⟨fun j hj => ?_, fun j hj => ?_, h.bel.setCell (p := ⟨g, k, none⟩) hgB _, Nat.le_trans h.siz hr2.size⟩
  · by_cases e : j = i
    · subst e
      rw [upd_same, hv, ← mixM_set j k (xs j) (by rw [hx j hj]; exact hk), ← hm]
      rw [hm] at hr1 ⊢
      exact hr1
    · rw [upd_other _ _ _ _ e]
      refine (h.row j hj).kept hr2 ?_
      rcases hb : (v j).ownBlock with _ | q
      · exact .inl rfl
      · refine .inr fun e' => ?_
        have := hA i j g (fun e'' => e e''.symm) hi hj (by rw [hv]; rfl)
        rw [hb] at this
        exact this e'
  · refine hr2.cell (h.cel j hj) ?_
    intro e
    have := hL i hi
    rw [hv] at this
    exact this e.symm

/-- the lists p that grow out of v -/
structure Fp (B L n H : Nat) (v p : Nat → Value) (q : Nat → Nat) (W0 W : World) : Prop where
  P : ∀ j, j < 2 → HRow W B 9 1 (p j) (n + q j) (mkL j (n + q j))
  A : ∀ j, j < 2 → ∀ g, (v j).ownBlock = some g → ∀ k, k < n → W.cell? ⟨g, k, none⟩ = some (.string (tM j k))
  C : ∀ j, j < 2 → W.cell? ⟨L, j, none⟩ = some (v j)
  pin : ∀ j, j < 2 → (p j).ownBlock = (v j).ownBlock ∨ ∀ g, (p j).ownBlock = some g → H ≤ g
  pq : ApartB p
  siz : H ≤ W.heap.size
  bel : Below B W0 W

theorem Fp.below {B L n H : Nat} {v p : Nat → Value} {q : Nat → Nat} {W0 W W' : World} (h : Fp B L n H v p q W0 W) (hb : Below W.heap.size W W') (hB : B ≤ W.heap.size) : Fp B L n H v p q W0 W' :=
  ⟨fun j hj => (h.P j hj).below hb (Nat.le_refl _), fun j hj g hg k hk => cellKeep (h.A j hj g hg k hk) hb, fun j hj => cellKeep (h.C j hj) hb, h.pin, h.pq, Nat.le_trans h.siz hb.size, h.bel.trans (hb.mono hB)⟩

/-- something else grows, that is none of ours -/
theorem Fp.other {B L n H : Nat} {v p : Nat → Value} {q : Nat → Nat} {W0 W W' : World} {row : Option Nat} (h : Fp B L n H v p q W0 W) (hg : W.grownBy W' row) (hB : B ≤ W.heap.size) (hrow : ∀ g, row = some g → H ≤ g ∧ B ≤ g ∧ ∀ j, j < 2 → (p j).ownBlock ≠ some g)
    (hvH : ∀ j, j < 2 → ∀ g, (v j).ownBlock = some g → g < H) (hLH : L < H) : Fp B L n H v p q W0 W' := by
  refine ⟨fun j hj => (h.P j hj).kept hg ?_, fun j hj g hv k hk => hg.cell (h.A j hj g hv k hk) ?_, fun j hj => hg.cell (h.C j hj) ?_, h.pin, h.pq, Nat.le_trans h.siz hg.size, h.bel.grown hg hB (fun g e => (hrow g e).2.1)⟩
  · rcases hb : (p j).ownBlock with _ | g
    · exact .inl rfl
    · exact .inr fun e => (hrow g e.symm).2.2 j hj hb
  · intro e
    have := (hrow g e.symm).1
    have := hvH j hj g hv
    omega
  · intro e
    have := (hrow L e.symm).1
    omega

theorem Fp.step {B L n H : Nat} {v p : Nat → Value} {q : Nat → Nat} {W0 W W2 : World} {p' : Value} {i : Nat} (h : Fp B L n H v p q W0 W) (hi : i < 2) (hB : B ≤ W.heap.size)
    (hA : ApartB v) (hvH : ∀ j, j < 2 → ∀ g, (v j).ownBlock = some g → g < H) (hLH : L < H) (hL : ∀ j, j < 2 → (v j).ownBlock ≠ some L)
    (own2 : HRow W2 B 9 1 p' (n + q i + 1) (mkL i (n + q i) ++ [.string (tM i (n + q i))])) (hg : W.grownBy W2 (p i).ownBlock)
    (hw : p'.ownBlock = (p i).ownBlock ∨ (p'.ownBlock = some W.heap.size ∧ W.grownBy W2 none)) :
    Fp B L n H v (upd p i p') (upd q i (q i + 1)) W0 W2 := by
  have hsz := h.siz
  have hlt := (h.P i hi).lt
  have hother : ∀ j g, j < 2 → j ≠ i → (p j).ownBlock = some g → (p i).ownBlock ≠ some g := fun j g hj hne e => h.pq j i g hne hj hi e
  refine ⟨fun j hj => ?_, fun j hj g hv k hk => ?_, fun j hj => ?_, fun j hj => ?_, ?_, Nat.le_trans hsz hg.size, h.bel.grown hg hB (fun g e => (hlt g e).1)⟩
  · by_cases e : j = i
    · subst e
      rw [upd_same, upd_same, ← Nat.add_assoc, mkL_succ]
      exact own2
    · rw [upd_other _ _ _ _ e, upd_other _ _ _ _ e]
      refine (h.P j hj).kept hg ?_
      rcases hb : (p j).ownBlock with _ | g
      · exact .inl rfl
      · exact .inr fun e' => hother j g hj e hb e'.symm
  · by_cases hp : (p i).ownBlock = some g
    · -- the block of a list of ours: it is the very one
      have hji : j = i := by
        rcases h.pin i hi with hs | hs
        · by_cases e : j = i
          · exact e
          · exact absurd (hs ▸ hp) (hA j i g e hj hi hv)
        · have := hs g hp
          have := hvH j hj g hv
          omega
      subst hji
      rcases hw with hs | ⟨_, hg0⟩
      · have hp' : p'.ownBlock = some g := hs.trans hp
        obtain ⟨g2, c2, e2, _, _⟩ := own2.form1 (by omega)
        subst e2
        obtain rfl : g2 = g := by simpa [Value.ownBlock] using hp'
        rw [own2.cellAt k (by omega), List.getElem?_append_left (by rw [mkL_len]; omega), mkL_get _ _ _ (by omega)]
      · exact hg0.cell (h.A j hj g hv k hk) (by simp)
    · exact hg.cell (h.A j hj g hv k hk) (fun e => hp e.symm)
  · refine hg.cell (h.C j hj) ?_
    intro e
    rcases h.pin i hi with hs | hs
    · exact hL i hi (hs ▸ e.symm)
    · have := hs L e.symm
      omega
  · by_cases e : j = i
    · subst e
      rw [upd_same]
      rcases hw with hs | ⟨hs, _⟩
      · rw [hs]; exact h.pin j hj
      · exact .inr fun g e => by rw [hs] at e; have := Option.some.inj e; omega
    · rw [upd_other _ _ _ _ e]; exact h.pin j hj
  · intro a b g hab ha hb hpa
    by_cases e1 : a = i
    · subst e1
      rw [upd_same] at hpa
      rw [upd_other _ _ _ _ (fun e => hab e.symm)]
      rcases hw with hs | ⟨hs, _⟩
      · rw [hs] at hpa
        exact h.pq a b g hab ha hb hpa
      · intro hq
        have := ((h.P b hb).lt g hq).2
        rw [hs] at hpa
        have := Option.some.inj hpa
        omega
    · rw [upd_other _ _ _ _ e1] at hpa
      by_cases e2 : b = i
      · subst e2
        rw [upd_same]
        rcases hw with hs | ⟨hs, _⟩
        · rw [hs]
          exact h.pq a b g hab ha hb hpa
        · intro hq
          have := ((h.P a ha).lt g hpa).2
          rw [hs] at hq
          have := Option.some.inj hq
          omega
      · rw [upd_other _ _ _ _ e2]
        exact h.pq a b g hab ha hb hpa

theorem upd_upd {α : Type} (f : Nat → α) (i : Nat) (x y : α) : upd (upd f i x) i y = upd f i y := by
  funext j
  by_cases h : j = i
  · subst h; rw [upd_same, upd_same]
  · rw [upd_other _ _ _ _ h, upd_other _ _ _ _ h, upd_other _ _ _ _ h]
/-- x ahead of i, 0 from there on -/
def uptoI (x i : Nat) : Nat → Nat := fun j => if j < i then x else 0
theorem uptoI_start (x i : Nat) : upd (uptoI x i) i 0 = uptoI x i := by
  funext j
  by_cases h : j = i
  · subst h; rw [upd_same]; simp [uptoI]
  · rw [upd_other _ _ _ _ h]
theorem uptoI_next (x i : Nat) : upd (uptoI x i) i x = uptoI x (i + 1) := by
  funext j
  by_cases h : j = i
  · subst h; rw [upd_same]; simp [uptoI]
  · rw [upd_other _ _ _ _ h]
    unfold uptoI
    by_cases h2 : j < i
    · rw [if_pos h2, if_pos (by omega)]
    · rw [if_neg h2, if_neg (by omega)]
theorem uptoI_lt (x i j : Nat) (h : j < i) : uptoI x i j = x := if_pos h
theorem set_other {W : World} {g k L i : Nat} {x y : Value} (hne : g ≠ L) (h : W.cell? ⟨L, i, none⟩ = some y) : (W.setCell ⟨g, k, none⟩ x).cell? ⟨L, i, none⟩ = some y :=
  (grownBy_set W g k x).cell h (fun e => hne (by cases e; rfl))
theorem none_or {x y : Option Nat} (h : ∀ g, x = some g → y ≠ some g) : x = none ∨ x ≠ y := by
  rcases hx : x with _ | g
  · exact .inl rfl
  · exact .inr fun e => h g hx e.symm
theorem info_texts : (Tryd.prog.info? 46).map (fun i => (i.zero, i.size, i.bytes)) = some (some (.slice none 0 0), 1, 24) := by kernel_rfl

set_option maxRecDepth 100000 in
set_option maxHeartbeats 8000000 in
theorem apart_any (n : Nat) (hn : n ≤ 4194304) (v : Nat → Value) (xs : Nat → List Value) (L B : Nat) (w : World) (hB : B ≤ w.heap.size) (hLs : L < w.heap.size)
    (hrow : ∀ j, j < 2 → HRow w B 9 1 (v j) n (xs j)) (hcel : ∀ j, j < 2 → w.cell? ⟨L, j, none⟩ = some (v j)) (hA : ApartB v) (hL : ∀ j, j < 2 → (v j).ownBlock ≠ some L) :
    Calls Tryd.prog 27 #[.slice (some ⟨L, 0, none⟩) 2 2] w fun e w' => e = .returned (.bool true) ∧ Below B w w' := by
  obtain ⟨i0, hi, hz0, hz1, hz2⟩ := info_parts info_str
  obtain ⟨i1, hj, hw0, hw1, hw2⟩ := info_parts info_texts
  have HX : Hid (∀ j, j < 2 → (xs j).length = n) := Lib.hid fun j hj => by have := (hrow j hj).1; omega
  have M0 : Hid (Ma B L n v xs (fun _ => 0) w w) := Lib.hid ⟨fun j hj => by rw [mixM_zero]; exact hrow j hj, hcel, Below.refl _ _, Nat.le_refl _⟩
  have HVF : Hid (∀ j, j < 2 → ∃ ao c, v j = .slice ao n c) := Lib.hid fun j hj => (hrow j hj).form
  have HVG : Hid (0 < n → ∀ j, j < 2 → ∃ g c, v j = .slice (some ⟨g, 0, none⟩) n c) := Lib.hid fun hn j hj => by obtain ⟨g, c, e, _⟩ := (hrow j hj).form1 hn; exact ⟨g, c, e⟩
  have HA := Lib.hid hA
  have HL := Lib.hid hL
  have HB := Lib.hid hB
  have HLs := Lib.hid hLs
  clear hrow hcel hA hL hLs hB
  go_enter Tryd.func27, Tryd.ntmps27
  go_wp2_with fail
  go_loopw [3] (fun i wr => ∃ i' : Nat, i = .int .i64 (i' : Nat) ∧ i' ≤ 2 ∧ Hid (Ma B L n v xs (uptoI n i') w wr)) (fun i _ => 2 - (intOf i).toNat)
  case atStart => exact ⟨0, rfl, by omega, Lib.hid (by rw [show uptoI n 0 = fun _ => 0 from rfl]; exact M0.out)⟩
  case round =>
    obtain ⟨i, rfl, hi2, hM⟩ := hrel
    by_cases h2 : i < 2
    · have h2i : (i : Int) < 2 := by omega
      have h2z : (0 : Int) ≤ (i : Int) := by omega
      have hMo := hM.out
      rw [← uptoI_start] at hMo
      have hM := Lib.hid hMo
      clear hMo
      obtain ⟨wo, rfl⟩ : ∃ wo : World, wo = wr := ⟨_, rfl⟩
      go_wp2_with fail
      go_loopw [4] (fun k wr => ∃ k' : Nat, k = .int .i64 (k' : Nat) ∧ k' ≤ n ∧ Hid (Ma B L n v xs (upd (uptoI n i) i k') w wr)) (fun k _ => n - (intOf k).toNat)
      case atStart => exact ⟨0, rfl, Nat.zero_le _, hM⟩
      case round =>
        clear hM
        obtain ⟨k, rfl, hk, hM⟩ := hrel
        have d0 := hM.out.cel i h2
        obtain ⟨ao, c, hv⟩ := (hM.out.row i h2).form
        rw [hv] at d0
        by_cases hkn : k < n
        · have hki : (k : Int) < (n : Int) := by omega
          have hkz : (0 : Int) ≤ (k : Int) := by omega
          obtain ⟨g, c', hv', hBg, hgW⟩ := (hM.out.row i h2).form1 (by omega)
          obtain ⟨rfl, rfl⟩ : ao = some ⟨g, 0, none⟩ ∧ c = c' := by rw [hv] at hv'; injection hv' with e1 e2 e3; exact ⟨e1, e3⟩
          have hr := hM.out.row i h2
          rw [hv] at hr
          have f0 := hr.frozenAt k
          obtain ⟨u0, e0⟩ : ∃ u, wr.cell? ⟨g, k, none⟩ = some u := ⟨_, (hr.cellAt k (by omega)).trans (List.getElem?_eq_getElem (by have := hr.1; omega))⟩
          have HV := Lib.hid hv
          have HMK := Lib.hid (fun w => mark_any i k (by omega) w)
          have hS : wr.drew.cell? ⟨L, i, none⟩ = some (.slice (some ⟨g, 0, none⟩) n c) := d0
          have hgL : g ≠ L := fun e => HL.out i h2 (by rw [hv, e]; rfl)
          obtain ⟨T, hT⟩ : ∃ T, tM i k = T := ⟨_, rfl⟩
          rw [hT] at HMK
          have HT := Lib.hid hT
          clear hv hv' hr hT
          go_wp2_with fail
          go_region_held_law (fun w' => w'.cell? ⟨L, i, none⟩ = some (.slice (some ⟨g, 0, none⟩) n c)) (first | (with_reducible assumption) | (with_reducible exact set_other hgL hSb))
            (first | (go_at_call 35; (with_reducible refine (HMK.out _).mono ?_); rintro e wb ⟨rfl, hbb⟩; have hYb := nx (Below.refl wr.heap.size wr).drew hbb; have hSb := cellKeep d0 hYb; have eb := cellKeep e0 hYb; have fb := (hYb.frozen (p := ⟨g, k, none⟩) hgW).trans f0))
          go_wp2_with fail
          refine ⟨⟨k + 1, by go_num, by omega, Lib.hid ?_⟩, by simp [intOf]; omega⟩
          have hsz := hM.out.siz
          have hBB := HB.out
          have := (hM.out.below hYb (by omega)).step HA.out HX.out HL.out h2 hkn (upd_same _ _ _) HV.out
          rw [upd_upd, HT.out] at this
          exact this
        · obtain rfl : k = n := by omega
          have hkd : decide (k < k) = false := decide_eq_false (by omega)
          have hMo := hM.out
          rw [uptoI_next] at hMo
          have hM := Lib.hid hMo
          clear hMo
          go_wp2_with fail
          exact ⟨⟨i + 1, by go_num, by omega, hM⟩, by simp [intOf]; omega⟩
    · obtain rfl : i = 2 := by omega
      rw [show ((2 : Nat) : Int) = 2 from rfl]
      have hsz := hM.out.siz
      have hLH : L < wr.heap.size := Nat.lt_of_lt_of_le HLs.out hsz
      have hBH : B ≤ wr.heap.size := Nat.le_trans HB.out hsz
      have hvH : Hid (∀ j, j < 2 → ∀ g, (v j).ownBlock = some g → g < wr.heap.size) := Lib.hid fun j hj g hg => ((hM.out.row j hj).lt g hg).2
      have F0 : Hid (Fp B L n wr.heap.size v v (uptoI 70 0) w wr) := by
        have hr : ∀ j, j < 2 → HRow wr B 9 1 (v j) n (mkL j n) := fun j hj => by
          have := hM.out.row j hj
          rw [uptoI_lt _ _ _ hj, mixM_full _ _ _ (HX.out j hj)] at this
          exact this
        refine Lib.hid ⟨hr, fun j hj g hg k hk => ?_, hM.out.cel, fun j hj => .inl rfl, HA.out, Nat.le_refl _, hM.out.bel⟩
        obtain ⟨g', c', e', _, _⟩ := (hr j hj).form1 (by omega)
        have h := hr j hj
        rw [e'] at h hg
        obtain rfl : g' = g := by simpa [Value.ownBlock] using hg
        rw [h.cellAt k (by omega), mkL_get _ _ _ hk]
      obtain ⟨H, hH⟩ : ∃ H, wr.heap.size = H := ⟨_, rfl⟩
      rw [hH] at hLH hBH hvH F0
      have HLH := Lib.hid hLH
      have HBH := Lib.hid hBH
      clear M0 hM hH hsz hLH hBH hi2
      go_wp2_with fail
      go_loopw [5, 6] (fun gr i W => ∃ (i' : Nat) (p : Nat → Value), i = .int .i64 (i' : Nat) ∧ i' ≤ 2 ∧ Hid (Fp B L n H v p (uptoI 70 i') w W) ∧ Hid (∀ j, i' ≤ j → p j = v j) ∧ Hid (W.ownsRow H 46 1 gr i' ((List.range i').map p))) (fun _ i _ => 2 - (intOf i).toNat)
      case atStart => exact ⟨0, v, rfl, by omega, F0, Lib.hid fun _ _ => rfl, Lib.hid (World.ownsRow_nil _ _ _ _)⟩
      case round =>
        clear F0
        obtain ⟨i, p0, rfl, hi2, hF, hpv, hG⟩ := hrel
        by_cases h2 : i < 2
        · have h2i : (i : Int) < 2 := by omega
          have h2z : (0 : Int) ≤ (i : Int) := by omega
          have d0 := hF.out.C i h2
          have hP := hF.out.P i h2
          rw [hpv.out i (Nat.le_refl _), show uptoI 70 i i = 0 from if_neg (Nat.lt_irrefl _), Nat.add_zero] at hP
          obtain ⟨ao, c, hv⟩ := hP.form
          rw [hv] at d0
          have HV := Lib.hid (hv.symm.trans (hpv.out i (Nat.le_refl _)).symm)
          have hFo := hF.out
          rw [← uptoI_start] at hFo
          have hF := Lib.hid hFo
          clear hFo hP hv
          obtain ⟨wo, rfl⟩ : ∃ wo : World, wo = wr := ⟨_, rfl⟩
          go_wp2_with fail
          go_loopw [7, 8] (fun g k W => ∃ (k' : Nat) (p : Nat → Value), k = .int .i64 (k' : Nat) ∧ k' ≤ 70 ∧ Hid (g = p i) ∧ Hid (Fp B L n H v p (upd (uptoI 70 i) i k') w W) ∧ Hid (∀ j, j ≠ i → p j = p0 j) ∧ Hid (W.ownsRow H 46 1 u5 i ((List.range i).map p0))) (fun _ k _ => 70 - (intOf k).toNat)
          case atStart => exact ⟨0, p0, rfl, by omega, HV, hF, Lib.hid fun _ _ => rfl, hG⟩
          case round =>
            clear hF hG HV d0
            obtain ⟨k, p, rfl, hk, hgp, hF, hpp, hG⟩ := hrel
            have hP := hF.out.P i h2
            rw [← hgp.out, upd_same] at hP
            obtain ⟨a7, c7, rfl⟩ := hP.form
            have hHs := hF.out.siz
            have hBs : B ≤ wr.heap.size := Nat.le_trans HBH.out hHs
            by_cases hk7 : k < 70
            · have hki : (k : Int) < 70 := by omega
              have d0 := hF.out.C i h2
              obtain ⟨ao', c', hv⟩ := HVF.out i h2
              rw [hv] at d0
              have HMK := Lib.hid (fun w => mark_any i (n + k) (by omega) w)
              rw [Int.natCast_add] at HMK
              obtain ⟨T, hT⟩ : ∃ T, tM i (n + k) = T := ⟨_, rfl⟩
              rw [hT] at HMK
              have HT := Lib.hid hT
              have hPH := Lib.hid hP
              clear hP hT hv
              go_wp2_with (first
                | (go_at_call 35; (with_reducible refine (HMK.out _).mono ?_); rintro e wb ⟨rfl, hbb⟩; have hszb := hbb.size; have hrowb := Lib.hid ((hPH.out.below hbb (Nat.le_refl _)).below ((Below.refl _ _).alloc (Nat.le_refl _) (.cells #[.string T] 9)) (Nat.le_refl _)))
                | (at_builtin; refine wpList_append_held rfl _ _ 46 rfl B 9 i0 (.string ⟨#[]⟩) 1 16 Tryd.underlying46 hi hz0 hz1 hz2 rfl _ _ _ rfl hrowb.out ⟨wb.heap.size, 0, none⟩ 1 1 [.string T] rfl (by simp) (cells_new _ _ _) (by simp [Value.oneCell']) (by unfold maxLen; omega) (by omega) (by rw [World.size_alloc]; omega) (by omega) ?_; intro v4 w4 hown4 hgrow4 hwh4))
              refine ⟨⟨k + 1, upd p i v4, by go_num, by omega, Lib.hid (upd_same _ _ _).symm, Lib.hid ?_, Lib.hid fun j hj => by rw [upd_other _ _ _ _ hj]; exact hpp.out j hj, Lib.hid ?_⟩, by simp [intOf]; omega⟩
              · have hFb := (hF.out.below hbb hBs).below ((Below.refl _ _).alloc (Nat.le_refl _) (.cells #[.string T] 9)) (by omega)
                have hq : upd (uptoI 70 i) i k i = k := upd_same _ _ _
                have := hFb.step h2 (by rw [World.size_alloc]; omega) HA.out hvH.out HLH.out HL.out (p' := v4) (by rw [hq, HT.out]; exact hown4) (by rw [← hgp.out]; exact hgrow4) (by rw [← hgp.out]; exact hwh4)
                rw [upd_upd, hq] at this
                exact this
              · have hGb := (owns_below hG.out hbb (Nat.le_refl _)).alloc (.cells #[.string T] 9)
                exact hGb.kept hgrow4 (none_or ((HRow.of_own hGb).apart hrowb.out (by decide)))
            · obtain rfl : k = 70 := by omega
              have hFo := hF.out
              rw [uptoI_next] at hFo
              have hF := Lib.hid hFo
              have hPH := Lib.hid hP
              clear hFo hP
              go_wp2_with (at_builtin; refine wpList_append_own _ rfl _ _ 50 rfl H 46 i1 (.slice none 0 0) 1 24 Tryd.underlying50 hj hw0 hw1 hw2 rfl (by decide) u5 i _ rfl (hG.out.alloc _) ⟨wr.heap.size, 0, none⟩ 1 1 [.slice a7 (n + 70) c7] rfl (by simp) (cells_new _ _ _) (by simp [Value.oneCell']) (by unfold maxLen; omega) (by omega) (by rw [World.size_alloc]; omega) ?_; intro v4 w4 hown4 hgrow4 _)
              refine ⟨⟨i + 1, p, by go_num, by omega, Lib.hid ?_, Lib.hid fun j hj => (hpp.out j (by omega)).trans (hpv.out j (by omega)), Lib.hid ?_⟩, by simp [intOf]; omega⟩
              · refine (hF.out.below ((Below.refl _ _).alloc (Nat.le_refl _) (.cells #[.slice a7 (n + 70) c7] 46)) hBs).other hgrow4 (by rw [World.size_alloc]; omega) (fun g e => ⟨(hG.out.lt g e).1, Nat.le_trans HBH.out (hG.out.lt g e).1, fun j hj => ?_⟩) hvH.out HLH.out
                exact (HRow.of_own hG.out).apart (hF.out.P j hj) (by decide) g e
              · rw [List.range_succ, List.map_append, List.map_singleton, ← hgp.out]
                rw [show List.map p (List.range i) = List.map p0 (List.range i) from List.map_congr_left fun j hj => hpp.out j (by have := List.mem_range.1 hj; omega)]
                exact hown4
        · obtain rfl : i = 2 := by omega
          rw [show ((2 : Nat) : Int) = 2 from rfl]
          have HGC : Hid (∀ j, j < 2 → ∃ gp cp, wr.cell? ⟨(u5.ownBlock).getD 0, j, none⟩ = some (.slice (some ⟨gp, 0, none⟩) (n + 70) cp) ∧ ∀ k, k < n + 70 → wr.cell? ⟨gp, k, none⟩ = some (.string (tM j k))) := Lib.hid fun j hj => by
            obtain ⟨gG, cG, e5⟩ := ownsRow_succ hG.out
            have hc := hG.out
            rw [e5] at hc
            have h1 := hc.cellAt j (by omega)
            rw [List.getElem?_map, List.getElem?_range hj] at h1
            have hp := hF.out.P j hj
            rw [uptoI_lt _ _ _ hj] at hp
            obtain ⟨gp, cp, ep, _, _⟩ := hp.form1 (by omega)
            rw [e5]
            refine ⟨gp, cp, h1.trans (by rw [← ep]; rfl), fun k hk => ?_⟩
            rw [ep] at hp
            rw [hp.cellAt k (by omega), mkL_get _ _ _ hk]
          obtain ⟨gG, cG, e5⟩ : ∃ g cap, u5 = .slice (some ⟨g, 0, none⟩) 2 cap := ownsRow_succ hG.out
          subst e5
          have hBs : B ≤ wr.heap.size := Nat.le_trans HBH.out hF.out.siz
          obtain ⟨N, hN⟩ : ∃ N, n + 70 = N := ⟨_, rfl⟩
          rw [hN] at HGC
          have hN1 : N ≤ 4194374 := by omega
          have HN := Lib.hid hN
          clear hN hG hi2 h2
          obtain ⟨W9, hW9⟩ : ∃ W9, wr = W9 := ⟨_, rfl⟩
          rw [hW9] at hF HGC hBs ⊢
          clear hW9
          go_wp2_with fail
          go_loopw [9] (fun i W => ∃ (i' : Nat), i = .int .i64 (i' : Nat) ∧ i' ≤ 2 ∧ Below W9.heap.size W9 W) (fun i _ => 2 - (intOf i).toNat)
          case atStart => exact ⟨0, rfl, by omega, Below.refl _ _⟩
          case round =>
            obtain ⟨i, rfl, hi2, hb⟩ := hrel
            by_cases h2 : i < 2
            · have h2i : (i : Int) < 2 := by omega
              have h2z : (0 : Int) ≤ (i : Int) := by omega
              obtain ⟨gp, cp, hc, hcs⟩ := HGC.out i h2
              have hc : W9.cell? ⟨gG, i, none⟩ = some (.slice (some ⟨gp, 0, none⟩) N cp) := hc
              have HCS := Lib.hid hcs
              have hl := hF.out.C i h2
              obtain ⟨ao, c, hv⟩ := HVF.out i h2
              rw [hv] at hl
              have d0 := cellKeep hc hb
              have HV := Lib.hid hv
              clear hcs hv
              obtain ⟨wo, rfl⟩ : ∃ wo : World, wo = wr := ⟨_, rfl⟩
              go_wp2_with fail
              go_loopw [10] (fun k W => ∃ (k' : Nat), k = .int .i64 (k' : Nat) ∧ k' ≤ N ∧ Below W9.heap.size W9 W) (fun k _ => N - (intOf k).toNat)
              case atStart => exact ⟨0, rfl, Nat.zero_le _, hb⟩
              case round =>
                clear d0 hb
                obtain ⟨k, rfl, hk, hb⟩ := hrel
                have d0 := cellKeep hc hb
                by_cases hkN : k < N
                · have hki : (k : Int) < (N : Int) := by omega
                  have hkz : (0 : Int) ≤ (k : Int) := by omega
                  have d1 := cellKeep (HCS.out k hkN) hb
                  have d2 := cellKeep hl hb
                  have HMK := Lib.hid (fun w => mark_any i k (by omega) w)
                  have HA0 := Lib.hid (hF.out.A i h2)
                  obtain ⟨T, hT⟩ : ∃ T, tM i k = T := ⟨_, rfl⟩
                  rw [hT] at d1 HMK
                  have k0 := Later.cell d0
                  have k1 := Later.cell d1
                  have k2 := Later.cell d2
                  have cM : ∀ p' : Later wr, Calls Tryd.prog 35 #[.int .i64 (i : Nat), .int .i64 (k : Nat)] p'.W fun e w'' => e = .returned (.string T) ∧ ∃ q : Later wr, w'' = q.W := fun p' => Calls.later_of (HMK.out _)
                  by_cases hkn : k < n
                  · have hkj : (k : Int) < (n : Int) := by omega
                    obtain ⟨g, hg⟩ : ∃ g, ao = some ⟨g, 0, none⟩ := by
                      obtain ⟨g, c', e⟩ := HVG.out (by omega) i h2
                      rw [HV.out] at e
                      injection e with e1
                      exact ⟨g, e1⟩
                    subst hg
                    have d3 := cellKeep (HA0.out g (by rw [HV.out]; rfl) k hkn) hb
                    rw [hT] at d3
                    have k3 := Later.cell d3
                    go_wp2_with fail
                    clear hT d0 d1 d2 d3
                    refine wp_region_later (by kernel_rfl) (by kernel_rfl) ?_
                    repeat (go_big_quiet_step (with_reducible exact cM _))
                    refine wpQuiet_nil ?_
                    intro _ hw'
                    obtain ⟨pq, hw''⟩ := hw'
                    subst hw''
                    go_wp2_with fail
                    exact ⟨⟨k + 1, by go_num, by omega, nx hb pq.hb⟩, by simp [intOf]; omega⟩
                  · have hkd : decide (k < n) = false := decide_eq_false hkn
                    have hkd2 : decide ((k : Int) < (n : Int)) = false := decide_eq_false (by omega)
                    go_wp2_with fail
                    clear hT d0 d1 d2
                    refine wp_region_later (by kernel_rfl) (by kernel_rfl) ?_
                    repeat (go_big_quiet_step (with_reducible exact cM _))
                    refine wpQuiet_nil ?_
                    intro _ hw'
                    obtain ⟨pq, hw''⟩ := hw'
                    subst hw''
                    go_wp2_with fail
                    exact ⟨⟨k + 1, by go_num, by omega, nx hb pq.hb⟩, by simp [intOf]; omega⟩
                · obtain rfl : k = N := by omega
                  have hkd : decide (k < k) = false := decide_eq_false (by omega)
                  go_wp2_with fail
                  exact ⟨⟨i + 1, by go_num, by omega, hb⟩, by simp [intOf]; omega⟩
            · obtain rfl : i = 2 := by omega
              rw [show ((2 : Nat) : Int) = 2 from rfl]
              go_wp2_with fail
              go_ret
              exact ⟨rfl, hF.out.bel.trans (hb.mono hBs)⟩

/-- two lists, laid in a list of lists -/
theorem apart_two (n : Nat) (hn : n ≤ 4194304) (v1 v2 : Value) (xs1 xs2 : List Value) (B : Nat) (w : World) (hB : B ≤ w.heap.size)
    (h1 : HRow w B 9 1 v1 n xs1) (h2 : HRow w B 9 1 v2 n xs2) (hne : ∀ g, v1.ownBlock = some g → v2.ownBlock ≠ some g) :
    Calls Tryd.prog 27 #[.slice (some ⟨w.heap.size, 0, none⟩) 2 2] (w.alloc (.cells #[v1, v2] 46)) fun e w' => e = .returned (.bool true) ∧ Below B w w' := by
  have hal : Below w.heap.size w (w.alloc (.cells #[v1, v2] 46)) := (Below.refl _ _).alloc (Nat.le_refl _) _
  have two : ∀ j, j < 2 → j = 0 ∨ j = 1 := fun j hj => by omega
  refine (apart_any n hn (fun j => if j = 0 then v1 else v2) (fun j => if j = 0 then xs1 else xs2) w.heap.size B _ (Nat.le_trans hB hal.size) (by rw [World.size_alloc]; omega) ?_ ?_ ?_ ?_).mono ?_
  · intro j hj
    rcases two j hj with rfl | rfl
    · exact h1.below hal (Nat.le_refl _)
    · exact h2.below hal (Nat.le_refl _)
  · intro j hj
    have := cells_new w [v1, v2] 46 j
    rw [Addr.add_lit, Nat.zero_add] at this
    rcases two j hj with rfl | rfl
    · exact this _ rfl
    · exact this _ rfl
  · intro i j g hij hi hj hg
    rcases two i hi with rfl | rfl <;> rcases two j hj with rfl | rfl
    · exact absurd rfl hij
    · exact hne g hg
    · exact fun e => hne g e hg
    · exact absurd rfl hij
  · intro j hj e
    rcases two j hj with rfl | rfl
    · exact absurd (h1.lt _ e).2 (Nat.lt_irrefl _)
    · exact absurd (h2.lt _ e).2 (Nat.lt_irrefl _)
  · rintro e w' ⟨rfl, hb⟩
    exact ⟨rfl, (hal.mono hB).trans hb⟩
end Go.Proofs.YtebmjmohhpkonaaDoor
