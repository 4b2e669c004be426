/-
  The law's apart: lists of cursors that lie apart: what the walk keeps.
-/
import Derived.Test.YtfoppbignompkaaDoorCurB
import Derived.Deep.RegionHeldLaw
import Derived.Deep.AppendLies
namespace Go.Proofs.YtfoppbignompkaaDoor
open Go.RowKit

/-- the mark of a list, and that of what is put behind it -/
def aCu (i : Nat) : Cu := (0, ((1000 + i : Nat) : Int), 0, 0)
def bCu (i : Nat) : Cu := (0, ((2000 + i : Nat) : Int), 0, 0)
def repC (c : Cu) (k : Nat) : List Value := (List.replicate k c).flatMap cuC
theorem repC_len (c : Cu) (k : Nat) : (repC c k).length = k * 4 := by unfold repC; rw [flat4c_len, List.length_replicate]
theorem repC_succ (c : Cu) (k : Nat) : repC c (k + 1) = repC c k ++ cuC c := by
  unfold repC
  rw [List.replicate_succ', List.flatMap_append]
  simp
theorem repC_get (c : Cu) (m k : Nat) (h : k < m) : (repC c m)[k * 4 + 1]? = some (.int .i64 c.2.1) := by
  unfold repC
  rw [flat4c_at _ k 1 (by rw [List.length_replicate]; exact h) (by omega)]
  rw [List.getElem?_replicate, if_pos h]
  rfl
/-- the first k marked -/
def mixK (c : Cu) (k : Nat) (xs : List Value) : List Value := repC c k ++ xs.drop (k * 4)
theorem mixK_zero (c : Cu) (xs : List Value) : mixK c 0 xs = xs := by simp [mixK, repC]
theorem mixK_full (c : Cu) (n : Nat) (xs : List Value) (h : xs.length = n * 4) : mixK c n xs = repC c n := by
  unfold mixK
  rw [List.drop_of_length_le (by omega), List.append_nil]
theorem mixK_set (c : Cu) (k : Nat) (xs : List Value) (h : k * 4 + 4 ≤ xs.length) :
    ((((mixK c k xs).set (k * 4) (.int .u32 c.1)).set (k * 4 + 1) (.int .i64 c.2.1)).set (k * 4 + 2) (.int .i64 c.2.2.1)).set (k * 4 + 3) (.int .i64 c.2.2.2) = mixK c (k + 1) xs := by
  unfold mixK
  have e0 : k * 4 = (repC c k).length + 0 := by rw [repC_len]; omega
  have e1 : k * 4 + 1 = (repC c k).length + 1 := by rw [repC_len]
  have e2 : k * 4 + 2 = (repC c k).length + 2 := by rw [repC_len]
  have e3 : k * 4 + 3 = (repC c k).length + 3 := by rw [repC_len]
  obtain ⟨y0, y1, y2, y3, D, hd, hD⟩ : ∃ y0 y1 y2 y3 D, xs.drop (k * 4) = y0 :: y1 :: y2 :: y3 :: D ∧ D = xs.drop ((k + 1) * 4) := by
    refine ⟨xs[k * 4], xs[k * 4 + 1], xs[k * 4 + 2], xs[k * 4 + 3], _, ?_, rfl⟩
    rw [List.drop_eq_getElem_cons (by omega), List.drop_eq_getElem_cons (by omega), List.drop_eq_getElem_cons (by omega), List.drop_eq_getElem_cons (by omega)]
    rw [show k * 4 + 1 + 1 + 1 + 1 = (k + 1) * 4 by omega]
  rw [hd, ← hD, repC_succ, List.append_assoc, e1, e2, e3]
  obtain ⟨p, hp⟩ : ∃ p, repC c k = p := ⟨_, rfl⟩
  rw [hp] at e0 ⊢
  rw [e0]
  rw [List.set_append_right _ _ (Nat.le_add_right _ _), List.set_append_right _ _ (Nat.le_add_right _ _), List.set_append_right _ _ (Nat.le_add_right _ _), List.set_append_right _ _ (Nat.le_add_right _ _)]
  simp only [Nat.add_sub_cancel_left]
  rfl
/-- a list of n marked ones and q behind them -/
def mkG (i n q : Nat) : List Value := repC (aCu i) n ++ repC (bCu i) q
theorem mkG_zero (i n : Nat) : mkG i n 0 = repC (aCu i) n := by simp [mkG, repC]
theorem mkG_len (i n q : Nat) : (mkG i n q).length = (n + q) * 4 := by unfold mkG; rw [List.length_append, repC_len, repC_len]; omega
theorem mkG_succ (i n q : Nat) : mkG i n (q + 1) = mkG i n q ++ cuC (bCu i) := by unfold mkG; rw [repC_succ, List.append_assoc]
theorem mkG_lt (i n q k : Nat) (h : k < n) : (mkG i n q)[k * 4 + 1]? = some (.int .i64 ((1000 + i : Nat) : Int)) := by
  unfold mkG
  rw [List.getElem?_append_left (by rw [repC_len]; omega), repC_get _ _ _ h]
  rfl
theorem mkG_ge (i n q k : Nat) (h : n ≤ k) (h2 : k < n + q) : (mkG i n q)[k * 4 + 1]? = some (.int .i64 ((2000 + i : Nat) : Int)) := by
  unfold mkG
  rw [List.getElem?_append_right (by rw [repC_len]; omega), repC_len, show k * 4 + 1 - n * 4 = (k - n) * 4 + 1 by omega, repC_get _ _ _ (by omega)]
  rfl
def updC {α : Type} (f : Nat → α) (i : Nat) (x : α) : Nat → α := fun j => if j = i then x else f j
theorem updC_same {α : Type} (f : Nat → α) (i : Nat) (x : α) : updC f i x i = x := if_pos rfl
theorem updC_other {α : Type} (f : Nat → α) (i j : Nat) (x : α) (h : j ≠ i) : updC f i x j = f j := if_neg h
theorem updC_updC {α : Type} (f : Nat → α) (i : Nat) (x y : α) : updC (updC f i x) i y = updC f i y := by
  funext j
  by_cases h : j = i
  · subst h; rw [updC_same, updC_same]
  · rw [updC_other _ _ _ _ h, updC_other _ _ _ _ h, updC_other _ _ _ _ h]
/-- x ahead of i, 0 from there on -/
def uptoF (x : Nat → Nat) (i : Nat) : Nat → Nat := fun j => if j < i then x j else 0
theorem uptoF_start (x : Nat → Nat) (i : Nat) : updC (uptoF x i) i 0 = uptoF x i := by
  funext j
  by_cases h : j = i
  · subst h; rw [updC_same]; simp [uptoF]
  · rw [updC_other _ _ _ _ h]
theorem uptoF_next (x : Nat → Nat) (i : Nat) : updC (uptoF x i) i (x i) = uptoF x (i + 1) := by
  funext j
  by_cases h : j = i
  · subst h; rw [updC_same]; simp [uptoF]
  · rw [updC_other _ _ _ _ h]
    unfold uptoF
    by_cases h2 : j < i
    · rw [if_pos h2, if_pos (by omega)]
    · rw [if_neg h2, if_neg (by omega)]
theorem uptoF_lt (x : Nat → Nat) (i j : Nat) (h : j < i) : uptoF x i j = x j := if_pos h

/-- the lists' blocks lie apart -/
def ApC (M : Nat) (v : Nat → Value) : Prop := ∀ i j g, i ≠ j → i < M → j < M → (v i).ownBlock = some g → (v j).ownBlock ≠ some g

/-- the lists, marked up to m -/
structure MaC (M B L : Nat) (n : Nat → Nat) (v : Nat → Value) (xs : Nat → List Value) (m : Nat → Nat) (W0 W : World) : Prop where
  row : ∀ j, j < M → HRow W B 36 4 (v j) (n j) (mixK (aCu j) (m j) (xs j))
  cel : ∀ j, j < M → W.cell? ⟨L, j, none⟩ = some (v j)
  bel : Below B W0 W
  siz : W0.heap.size ≤ W.heap.size

theorem MaC.below {M B L : Nat} {n : Nat → Nat} {v : Nat → Value} {xs : Nat → List Value} {m : Nat → Nat} {W0 W W' : World} (h : MaC M B L n v xs m W0 W) (hb : Below W.heap.size W W') (hB : B ≤ W.heap.size) : MaC M B L n v xs m W0 W' :=
  ⟨fun j hj => (h.row j hj).below hb (Nat.le_refl _), fun j hj => cellKeep (h.cel j hj) hb, h.bel.trans (hb.mono hB), Nat.le_trans h.siz hb.size⟩

theorem MaC.step {M B L : Nat} {n : Nat → Nat} {v : Nat → Value} {xs : Nat → List Value} {m : Nat → Nat} {W0 W : World} (h : MaC M B L n v xs m W0 W) (hA : ApC M v) (hx : ∀ j, j < M → (xs j).length = n j * 4) (hL : ∀ j, j < M → (v j).ownBlock ≠ some L)
    {i k g c : Nat} (hi : i < M) (hk : k < n i) (hm : m i = k) (hv : v i = .slice (some ⟨g, 0, none⟩) (n i) c) (V : Int) (hV : V = ((1000 + i : Nat) : Int)) :
    MaC M B L n v xs (updC m i (k + 1)) W0 ((((W.setCell ⟨g, k * 4, none⟩ (.int .u32 0)).setCell ⟨g, k * 4 + 1, none⟩ (.int .i64 V)).setCell ⟨g, k * 4 + 2, none⟩ (.int .i64 0)).setCell ⟨g, k * 4 + 3, none⟩ (.int .i64 0)) := by
  subst hV
  have hr := h.row i hi
  rw [hv] at hr
  obtain ⟨hr1, g1⟩ := hr.stored (k * 4) (.int .u32 (aCu i).1)
  obtain ⟨hr2, g2⟩ := hr1.stored (k * 4 + 1) (.int .i64 (aCu i).2.1)
  obtain ⟨hr3, g3⟩ := hr2.stored (k * 4 + 2) (.int .i64 (aCu i).2.2.1)
  obtain ⟨hr4, g4⟩ := hr3.stored (k * 4 + 3) (.int .i64 (aCu i).2.2.2)
  have hgB : B ≤ g := (hr.lt g rfl).1
  refine ⟨fun j hj => ?_, fun j hj => ?_, ?_, Nat.le_trans h.siz (Nat.le_trans g1.size (Nat.le_trans g2.size (Nat.le_trans g3.size g4.size)))⟩
  · by_cases e : j = i
    · subst e
      rw [updC_same, hv, ← mixK_set (aCu j) k (xs j) (by rw [hx j hj]; omega), ← hm]
      rw [hm] at hr4 ⊢
      exact hr4
    · rw [updC_other _ _ _ _ e]
      have hne : (v j).ownBlock = none ∨ (v j).ownBlock ≠ some g := by
        rcases hb : (v j).ownBlock with _ | q
        · exact .inl rfl
        · refine .inr fun e' => ?_
          have := hA i j g (fun e'' => e e''.symm) hi hj (by rw [hv]; rfl)
          rw [hb] at this
          exact this e'
      exact ((((h.row j hj).kept g1 hne).kept g2 hne).kept g3 hne).kept g4 hne
  · have hne : (⟨L, j, none⟩ : Addr).block ≠ g := by
      intro e
      have := hL i hi
      rw [hv] at this
      exact this (congrArg some e.symm)
    have hne' : some (⟨L, j, none⟩ : Addr).block ≠ some g := fun e => hne (Option.some.inj e)
    exact g4.cell (g3.cell (g2.cell (g1.cell (h.cel j hj) hne') hne') hne') hne'
  · exact (((h.bel.setCell (p := ⟨g, k * 4, none⟩) hgB _).setCell (p := ⟨g, k * 4 + 1, none⟩) hgB _).setCell (p := ⟨g, k * 4 + 2, none⟩) hgB _).setCell (p := ⟨g, k * 4 + 3, none⟩) hgB _

/-- the lists p that grow out of v -/
structure FpC (M B L H : Nat) (n : Nat → Nat) (v p : Nat → Value) (q : Nat → Nat) (W0 W : World) : Prop where
  P : ∀ j, j < M → HRow W B 36 4 (p j) (n j + q j) (mkG j (n j) (q j))
  A : ∀ j, j < M → ∀ g, (v j).ownBlock = some g → ∀ k, k < n j → W.cell? ⟨g, k * 4 + 1, none⟩ = some (.int .i64 ((1000 + j : Nat) : Int))
  C : ∀ j, j < M → W.cell? ⟨L, j, none⟩ = some (v j)
  pin : ∀ j, j < M → (p j).ownBlock = (v j).ownBlock ∨ ∀ g, (p j).ownBlock = some g → H ≤ g
  pq : ApC M p
  siz : H ≤ W.heap.size
  bel : Below B W0 W

theorem FpC.below {M B L H : Nat} {n : Nat → Nat} {v p : Nat → Value} {q : Nat → Nat} {W0 W W' : World} (h : FpC M B L H n v p q W0 W) (hb : Below W.heap.size W W') (hB : B ≤ W.heap.size) : FpC M B L H n v p q W0 W' :=
  ⟨fun j hj => (h.P j hj).below hb (Nat.le_refl _), fun j hj g hg k hk => cellKeep (h.A j hj g hg k hk) hb, fun j hj => cellKeep (h.C j hj) hb, h.pin, h.pq, Nat.le_trans h.siz hb.size, h.bel.trans (hb.mono hB)⟩

/-- something else grows, that is none of ours -/
theorem FpC.other {M B L H : Nat} {n : Nat → Nat} {v p : Nat → Value} {q : Nat → Nat} {W0 W W' : World} {row : Option Nat} (h : FpC M B L H n v p q W0 W) (hg : W.grownBy W' row) (hB : B ≤ W.heap.size) (hrow : ∀ g, row = some g → H ≤ g ∧ B ≤ g ∧ ∀ j, j < M → (p j).ownBlock ≠ some g)
    (hvH : ∀ j, j < M → ∀ g, (v j).ownBlock = some g → g < H) (hLH : L < H) : FpC M B L H n v p q W0 W' := by
  refine ⟨fun j hj => (h.P j hj).kept hg ?_, fun j hj g hv k hk => hg.cell (h.A j hj g hv k hk) ?_, fun j hj => hg.cell (h.C j hj) ?_, h.pin, h.pq, Nat.le_trans h.siz hg.size, h.bel.grown hg hB (fun g e => (hrow g e).2.1)⟩
  · rcases hb : (p j).ownBlock with _ | g
    · exact .inl rfl
    · exact .inr fun e => (hrow g e.symm).2.2 j hj hb
  · intro e
    have := (hrow g e.symm).1
    have := hvH j hj g hv
    omega
  · intro e
    have := (hrow L e.symm).1
    omega

theorem FpC.step {M B L H : Nat} {n : Nat → Nat} {v p : Nat → Value} {q : Nat → Nat} {W0 W W2 : World} {p' : Value} {i : Nat} (h : FpC M B L H n v p q W0 W) (hi : i < M) (hB : B ≤ W.heap.size)
    (hA : ApC M v) (hvH : ∀ j, j < M → ∀ g, (v j).ownBlock = some g → g < H) (hLH : L < H) (hL : ∀ j, j < M → (v j).ownBlock ≠ some L)
    (own2 : HRow W2 B 36 4 p' (n i + q i + 1) (mkG i (n i) (q i) ++ cuC (bCu i))) (hg : W.grownBy W2 (p i).ownBlock)
    (hw : p'.ownBlock = (p i).ownBlock ∨ (p'.ownBlock = some W.heap.size ∧ W.grownBy W2 none)) :
    FpC M B L H n v (updC p i p') (updC q i (q i + 1)) W0 W2 := by
  have hsz := h.siz
  have hlt := (h.P i hi).lt
  have hother : ∀ j g, j < M → j ≠ i → (p j).ownBlock = some g → (p i).ownBlock ≠ some g := fun j g hj hne e => h.pq j i g hne hj hi e
  refine ⟨fun j hj => ?_, fun j hj g hv k hk => ?_, fun j hj => ?_, fun j hj => ?_, ?_, Nat.le_trans hsz hg.size, h.bel.grown hg hB (fun g e => (hlt g e).1)⟩
  · by_cases e : j = i
    · subst e
      rw [updC_same, updC_same, ← Nat.add_assoc, mkG_succ]
      exact own2
    · rw [updC_other _ _ _ _ e, updC_other _ _ _ _ e]
      refine (h.P j hj).kept hg ?_
      rcases hb : (p j).ownBlock with _ | g
      · exact .inl rfl
      · exact .inr fun e' => hother j g hj e hb e'.symm
  · by_cases hp : (p i).ownBlock = some g
    · have hji : j = i := by
        rcases h.pin i hi with hs | hs
        · by_cases e : j = i
          · exact e
          · exact absurd (hs ▸ hp) (hA j i g e hj hi hv)
        · have := hs g hp
          have := hvH j hj g hv
          omega
      subst hji
      rcases hw with hs | ⟨_, hg0⟩
      · have hp' : p'.ownBlock = some g := hs.trans hp
        obtain ⟨g2, c2, e2, _, _⟩ := own2.form1 (by omega)
        subst e2
        obtain rfl : g2 = g := by simpa [Value.ownBlock] using hp'
        rw [own2.cellAt (k * 4 + 1) (by omega), List.getElem?_append_left (by rw [mkG_len]; omega), mkG_lt _ _ _ _ hk]
      · exact hg0.cell (h.A j hj g hv k hk) (by simp)
    · exact hg.cell (h.A j hj g hv k hk) (fun e => hp e.symm)
  · refine hg.cell (h.C j hj) ?_
    intro e
    rcases h.pin i hi with hs | hs
    · exact hL i hi (hs ▸ e.symm)
    · have := hs L e.symm
      omega
  · by_cases e : j = i
    · subst e
      rw [updC_same]
      rcases hw with hs | ⟨hs, _⟩
      · rw [hs]; exact h.pin j hj
      · exact .inr fun g e => by rw [hs] at e; have := Option.some.inj e; omega
    · rw [updC_other _ _ _ _ e]; exact h.pin j hj
  · intro a b g hab ha hb hpa
    by_cases e1 : a = i
    · subst e1
      rw [updC_same] at hpa
      rw [updC_other _ _ _ _ (fun e => hab e.symm)]
      rcases hw with hs | ⟨hs, _⟩
      · rw [hs] at hpa
        exact h.pq a b g hab ha hb hpa
      · intro hq
        have := ((h.P b hb).lt g hq).2
        rw [hs] at hpa
        have := Option.some.inj hpa
        omega
    · rw [updC_other _ _ _ _ e1] at hpa
      by_cases e2 : b = i
      · subst e2
        rw [updC_same]
        rcases hw with hs | ⟨hs, _⟩
        · rw [hs]
          exact h.pq a b g hab ha hb hpa
        · intro hq
          have := ((h.P a ha).lt g hpa).2
          rw [hs] at hq
          have := Option.some.inj hq
          omega
      · rw [updC_other _ _ _ _ e2]
        exact h.pq a b g hab ha hb hpa
theorem setC_other {W : World} {g k L i : Nat} {x y : Value} (hne : g ≠ L) (h : W.cell? ⟨L, i, none⟩ = some y) : (W.setCell ⟨g, k, none⟩ x).cell? ⟨L, i, none⟩ = some y :=
  (grownBy_set W g k x).cell h (fun e => hne (by cases e; rfl))
theorem noneC_or {x y : Option Nat} (h : ∀ g, x = some g → y ≠ some g) : x = none ∨ x ≠ y := by
  rcases hx : x with _ | g
  · exact .inl rfl
  · exact .inr fun e => h g hx e.symm
theorem info_lists : (Tryd.prog.info? 22).map (fun i => (i.zero, i.size, i.bytes)) = some (some (.slice none 0 0), 1, 24) := by kernel_rfl
end Go.Proofs.YtfoppbignompkaaDoor
