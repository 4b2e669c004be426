/-
  The walk of the law UtfFresh: runes that are told lie in memory of their own, written over and grown.
-/
import Derived.Test.YtnfjohlbpbonhaaDoorReads
import Derived.Test.YtnfjohlbpbonhaaDoorAwake
import Derived.Test.YtnfjohlbpbonhaaDoorAppend
namespace Go.Proofs.YtnfjohlbpbonhaaDoor
open Go.RowKit

/-- the first n cells of a value's block hold x -/
def RowIs (W : World) (v : Value) (n : Nat) (x : Int) : Prop := ∀ g, v.ownBlock = some g → ∀ j, j < n → W.cell? ⟨g, j, none⟩ = some (.int .i32 x)
/-- n times x, then k times y -/
def rep2 (n k : Nat) (x y : Int) : List Value := (List.replicate n x ++ List.replicate k y).map (Value.int .i32)
theorem rep2_len (n k : Nat) (x y : Int) : (rep2 n k x y).length = n + k := by simp [rep2]
theorem rep2_succ (n k : Nat) (x y : Int) : rep2 n (k + 1) x y = rep2 n k x y ++ [.int .i32 y] := by simp [rep2, List.replicate_succ']
theorem rep2_lo (n k : Nat) (x y : Int) (j : Nat) (h : j < n) : (rep2 n k x y)[j]? = some (.int .i32 x) := by
  unfold rep2
  rw [List.getElem?_map, List.getElem?_append_left (by simpa using h)]
  simp [h]
theorem rep2_hi (n k : Nat) (x y : Int) (j : Nat) (h : n ≤ j) (hj : j < n + k) : (rep2 n k x y)[j]? = some (.int .i32 y) := by
  unfold rep2
  rw [List.getElem?_map, List.getElem?_append_right (by simpa using h)]
  have : j - n < k := by omega
  simp [this]
theorem own_slice {w : World} {base : Nat} {e : TypeId} {size : Nat} {v : Value} {n : Nat} {L : List Value} (h : w.ownsRow base e size v n L) : ∃ ao cap, v = .slice ao n cap := by
  rcases h.2 with ⟨rfl, rfl⟩ | ⟨g, cap, cur, rfl, _⟩
  · exact ⟨_, _, rfl⟩
  · exact ⟨_, _, rfl⟩
theorem own_at {w : World} {base : Nat} {e : TypeId} {size : Nat} {v : Value} {n : Nat} {L : List Value} (h : w.ownsRow base e size v n L) (hn : 0 < n) : ∃ g cap, v = .slice (some ⟨g, 0, none⟩) n cap ∧ base ≤ g ∧ g < w.heap.size := by
  rcases h.2 with ⟨rfl, rfl⟩ | ⟨g, cap, cur, rfl, hb, hh, _⟩
  · omega
  · exact ⟨g, cap, rfl, hb, (Array.getElem?_eq_some_iff.1 hh).1⟩

theorem own_same {W W' : World} {base : Nat} {e : TypeId} {size : Nat} {v : Value} {n : Nat} {L : List Value} (h : W.ownsRow base e size v n L) (hk : ∀ g, v.ownBlock = some g → W'.heap[g]? = W.heap[g]?) : W'.ownsRow base e size v n L := by
  refine ⟨h.1, ?_⟩
  rcases h.2 with h2 | ⟨g, cap, cur, rfl, hb, hh, r⟩
  · exact .inl h2
  · exact .inr ⟨g, cap, cur, rfl, hb, (hk g rfl).trans hh, r⟩

structure Fr (w0 W3 W : World) (v1 v2 p q : Value) (n kp kq : Nat) (x1 x2 y1 y2 : Int) : Prop where
  P : W.ownsRow w0.heap.size 21 1 p (n + kp) (rep2 n kp x1 y1)
  Q : W.ownsRow w0.heap.size 21 1 q (n + kq) (rep2 n kq x2 y2)
  A : RowIs W v1 n x1
  B : RowIs W v2 n x2
  pin : p.ownBlock = v1.ownBlock ∨ ∀ g, p.ownBlock = some g → W3.heap.size ≤ g
  qin : q.ownBlock = v2.ownBlock ∨ ∀ g, q.ownBlock = some g → W3.heap.size ≤ g
  pq : ∀ g, p.ownBlock = some g → q.ownBlock ≠ some g
  ab : ∀ g, v1.ownBlock = some g → v2.ownBlock ≠ some g
  a1 : ∀ g, v1.ownBlock = some g → g < W3.heap.size
  b1 : ∀ g, v2.ownBlock = some g → g < W3.heap.size
  keep : ∀ k, k < W3.heap.size → some k ≠ v1.ownBlock → some k ≠ v2.ownBlock → W.heap[k]? = W3.heap[k]?
  dz : W3.heap.size ≤ W.heap.size
  bel : Below w0.heap.size w0 W

theorem Fr.swap {w0 W3 W : World} {v1 v2 p q : Value} {n kp kq : Nat} {x1 x2 y1 y2 : Int} (F : Fr w0 W3 W v1 v2 p q n kp kq x1 x2 y1 y2) : Fr w0 W3 W v2 v1 q p n kq kp x2 x1 y2 y1 :=
  ⟨F.Q, F.P, F.B, F.A, F.qin, F.pin, fun g h1 h2 => F.pq g h2 h1, fun g h1 h2 => F.ab g h2 h1, F.b1, F.a1, fun k h h1 h2 => F.keep k h h2 h1, F.dz, F.bel⟩

theorem Fr.step {w0 W3 W W2 : World} {v1 v2 p q p' : Value} {n kp kq : Nat} {x1 x2 y1 y2 : Int} (F : Fr w0 W3 W v1 v2 p q n kp kq x1 x2 y1 y2) (O : Obj)
    (own2 : W2.ownsRow w0.heap.size 21 1 p' (n + kp + 1) (rep2 n kp x1 y1 ++ [.int .i32 y1])) (hg : (W.alloc O).grownBy W2 p.ownBlock)
    (hw : p'.ownBlock = p.ownBlock ∨ (p'.ownBlock = some (W.alloc O).heap.size ∧ (W.alloc O).grownBy W2 none)) :
    Fr w0 W3 W2 v1 v2 p' q n (kp + 1) kq x1 x2 y1 y2 := by
  have hsz : (W.alloc O).heap.size = W.heap.size + 1 := World.size_alloc _ _
  have hdz := F.dz
  have hblk : ∀ k, k < W.heap.size → (W.alloc O).heap[k]? = W.heap[k]? := fun k hk => Below.heap_alloc _ _ _ hk
  have hlt := (F.P.alloc O).lt
  have kept : ∀ {g j : Nat} {u : Value}, g < W.heap.size → some g ≠ p.ownBlock → W.cell? ⟨g, j, none⟩ = some u → W2.cell? ⟨g, j, none⟩ = some u := fun {g j u} hlt hne hc =>
    (World.cell?_of_block (a := ⟨g, j, none⟩) ((hg.block g (by omega) hne).trans (hblk g hlt))).trans hc
  refine ⟨by rw [rep2_succ]; exact own2, (F.Q.alloc O).kept hg ?_, ?_, ?_, ?_, F.qin, ?_, F.ab, F.a1, F.b1, ?_, ?_, ?_⟩
  · cases hq : q.ownBlock with
    | none => exact .inl rfl
    | some g => exact .inr (fun e => F.pq g e.symm hq)
  · intro g hv j hj
    have hgW : g < W.heap.size := Nat.lt_of_lt_of_le (F.a1 g hv) hdz
    rcases hw with hs | ⟨hs, hg0⟩
    · by_cases hp : p.ownBlock = some g
      · obtain ⟨g2, cap2, rfl, _, _⟩ := own_at own2 (by omega)
        have e2 : g2 = g := by rw [hp] at hs; simpa [Value.ownBlock] using hs
        subst e2
        rw [own2.cellAt j (by omega), List.getElem?_append_left (by rw [rep2_len]; omega), rep2_lo _ _ _ _ _ hj]
      · exact kept hgW (fun e => hp e.symm) (F.A g hv j hj)
    · exact (World.cell?_of_block (a := ⟨g, j, none⟩) ((hg0.block g (by omega) (by simp)).trans (hblk g hgW))).trans (F.A g hv j hj)
  · intro g hv j hj
    have hg3 := F.b1 g hv
    refine kept (Nat.lt_of_lt_of_le hg3 hdz) (fun e => ?_) (F.B g hv j hj)
    rcases F.pin with h | h
    · rw [h] at e; exact F.ab g e.symm hv
    · have := h g e.symm; omega
  · rcases hw with hs | ⟨hs, _⟩
    · rw [hs]; exact F.pin
    · exact .inr (fun g e => by rw [hs] at e; have := Option.some.inj e; omega)
  · intro g e
    rcases hw with hs | ⟨hs, _⟩
    · rw [hs] at e; exact F.pq g e
    · intro hq
      have := (F.Q.lt g hq).2
      rw [hs] at e
      have := Option.some.inj e
      omega
  · intro k hk h1 h2
    have hne : some k ≠ p.ownBlock := by
      rcases F.pin with h | h
      · rw [h]; exact h1
      · intro e; have := h k e.symm; omega
    exact ((hg.block k (by omega) hne).trans (hblk k (by omega))).trans (F.keep k hk h1 h2)
  · have := hg.size; omega
  · exact (al F.bel O).grown hg (by have := F.bel.size; omega) (fun g e => (F.P.lt g e).1)

/-- k times x, then what stood there -/
def mixZ (zs : List Int) (k : Nat) (x : Int) : List Value := (List.replicate k x ++ zs.drop k).map (Value.int .i32)
theorem mixZ_set (zs : List Int) (k : Nat) (x : Int) (h : k < zs.length) : (mixZ zs k x).set k (.int .i32 x) = mixZ zs (k + 1) x := by
  unfold mixZ
  rw [← List.map_set]
  congr 1
  rw [List.set_append_right _ _ (by simp), List.length_replicate, Nat.sub_self, List.drop_eq_getElem_cons h, List.set_cons_zero, List.replicate_succ', List.append_assoc]
  rfl
theorem mixZ_zero (zs : List Int) (x : Int) : mixZ zs 0 x = zs.map (Value.int .i32) := by simp [mixZ]
theorem mixZ_full (zs : List Int) (x : Int) : mixZ zs zs.length x = rep2 zs.length 0 x 0 := by simp [mixZ, rep2]
theorem rep2_zero (n : Nat) (x y y' : Int) : rep2 n 0 x y = rep2 n 0 x y' := by simp [rep2]

set_option maxRecDepth 100000 in
set_option maxHeartbeats 4000000 in
theorem utfFresh_any (s : ByteArray) (hs : s.size ≤ 1048576) (w : World) (hT : Tabs w) :
    Calls Tryd.prog 6 #[.string s] w fun e w' => e = .returned (.bool true) ∧ Below w.heap.size w w' := by
  obtain ⟨i0, hi, hz0, hz1, hz2⟩ := info_parts info_i32
  have HT := Lib.hid hT
  have HAW := Lib.hid (fun w hT => awake_any w hT)
  have hns := bs_len_le s
  obtain ⟨zs, hzs⟩ : ∃ zs, runesZ (bs s) = zs := ⟨_, rfl⟩
  obtain ⟨n, hn⟩ : ∃ n, countN (bs s) = n := ⟨_, rfl⟩
  have hzl : zs.length = n := by rw [← hzs, runesZ_len, hn]
  have HR := Lib.hid (runes_any s (by omega))
  have HQ := Lib.hid (refrunes_any s hs)
  rw [hzs, hn] at HR HQ
  rw [hn] at hns
  have HZ := Lib.hid hzl
  clear hT hzs hn hzl
  go_enter Tryd.func6, Tryd.ntmps6
  go_wp2_with (first | (go_at_call 22; (with_reducible refine (HR.out w).mono ?_); rintro e w1 ⟨v1, rfl, hv1, hb1⟩) | (go_at_call 22; (with_reducible refine (HR.out w1).mono ?_); rintro e w2 ⟨v2, rfl, hv2, hb2⟩) | (go_at_call 23; (with_reducible refine (HQ.out _).mono ?_); rintro e w3 ⟨v3, rfl, hv3, hb3⟩))
  have l1 := hv1.lt
  have l2 := hv2.lt
  have l3 := hv3.lt
  have s1 := hb1.size
  have s2 := hb2.size
  have s3 := hb3.size
  have h1 := owns_below (owns_below hv1 hb2 (Nat.le_refl _)) hb3 (Nat.le_refl _)
  have h2 := owns_below hv2 hb3 (Nat.le_refl _)
  obtain ⟨ao1, ca1, e1, -, R1⟩ := ReadsI.owned h1
  obtain ⟨ao2, ca2, e2, -, R2⟩ := ReadsI.owned h2
  obtain ⟨ao3, ca3, e3, -, R3⟩ := ReadsI.owned hv3
  rw [HZ.out] at e1 e2 e3
  subst e1 e2 e3
  have hlen : zs.length ≤ 140737488351232 := by rw [HZ.out]; omega
  have HS1 := Lib.hid (fun W hb => sameRunes_any ao1 ao3 ca1 ca3 zs zs hlen W (ReadsI.below R1 (B := w3.heap.size) hb (Nat.le_refl _)) (ReadsI.below R3 (B := w3.heap.size) hb (Nat.le_refl _)))
  have HS2 := Lib.hid (fun W hb => sameRunes_any ao2 ao3 ca2 ca3 zs zs hlen W (ReadsI.below R2 (B := w3.heap.size) hb (Nat.le_refl _)) (ReadsI.below R3 (B := w3.heap.size) hb (Nat.le_refl _)))
  have HS3 := Lib.hid (fun ao ca W (ha : ReadsI W .i32 ao zs) (hb : ReadsI W .i32 ao3 zs) => sameRunes_any ao ao3 ca ca3 zs zs hlen W ha hb)
  rw [sameZ_self, HZ.out] at HS1 HS2 HS3
  have HV3 := Lib.hid hv3
  have H1 := Lib.hid h1
  have H2 := Lib.hid h2
  clear h1 h2 R1 R2 R3 hlen hv1 hv2 hv3
  go_wp2_with (first | (go_at_call 21; (with_reducible refine (HS1.out _ (Below.refl _ _)).mono ?_); rintro e w4 ⟨rfl, hb4⟩) | (go_at_call 21; (with_reducible refine (HS2.out _ hb4).mono ?_); rintro e w5 ⟨rfl, hb5⟩))
  have hb35 : Below w3.heap.size w3 w5 := nx hb4 hb5
  have s5 := hb35.size
  have hb05 : Below w.heap.size w w5 := nx (nx (nx hb1 hb2) hb3) hb35
  have P1 := Lib.hid (owns_base (base' := w.heap.size) (owns_below H1.out hb35 (Nat.le_refl _)) (Nat.le_refl _))
  have P2 := Lib.hid (owns_base (base' := w.heap.size) (owns_below H2.out hb35 (Nat.le_refl _)) s1)
  have P3 := Lib.hid (owns_below HV3.out hb35 (Nat.le_refl _))
  have AB : Hid (∀ g, (Value.slice ao1 n ca1).ownBlock = some g → (Value.slice ao2 n ca2).ownBlock ≠ some g) := Lib.hid (fun g e e' => by have := (l1 g e).2; have := (l2 g e').1; omega)
  have A1 : Hid (∀ g, (Value.slice ao1 n ca1).ownBlock = some g → g < w5.heap.size) := Lib.hid (fun g e => by have := (l1 g e).2; omega)
  have B1 : Hid (∀ g, (Value.slice ao2 n ca2).ownBlock = some g → g < w5.heap.size) := Lib.hid (fun g e => by have := (l2 g e).2; omega)
  have C1 : Hid (∀ g, (Value.slice ao3 n ca3).ownBlock = some g → g < w5.heap.size ∧ (Value.slice ao1 n ca1).ownBlock ≠ some g ∧ (Value.slice ao2 n ca2).ownBlock ≠ some g) := Lib.hid (fun g e => by
    have h3 := l3 g e
    exact ⟨by omega, fun e' => by have := (l1 g e').2; omega, fun e' => by have := (l2 g e').2; omega⟩)
  clear l1 l2 l3 hb1 hb2 hb3 hb4 hb5 hb35 s1 s2 s3 s5 HS1 HS2 H1 H2 HV3
  go_loopw [6] (fun i wr => ∃ k, k ≤ n ∧ i = .int .i64 (k : Nat) ∧ Hid (wr.ownsRow w.heap.size 21 1 (.slice ao1 n ca1) n (mixZ zs k 1) ∧ wr.ownsRow w.heap.size 21 1 (.slice ao2 n ca2) n (mixZ zs k 2) ∧ (∀ k, k < w5.heap.size → some k ≠ (Value.slice ao1 n ca1).ownBlock → some k ≠ (Value.slice ao2 n ca2).ownBlock → wr.heap[k]? = w5.heap[k]?) ∧ w5.heap.size ≤ wr.heap.size) ∧ Below w.heap.size w wr) (fun i _ => n - (intOf i).toNat)
  case atStart => exact ⟨0, Nat.zero_le _, rfl, ⟨by rw [mixZ_zero]; exact P1.out, by rw [mixZ_zero]; exact P2.out, fun _ _ _ _ => rfl, Nat.le_refl _⟩, hb05⟩
  case round =>
    obtain ⟨k, hk, rfl, hh, hb⟩ := hrel
    by_cases hlt : k < n
    · have q1 := hh.out.1
      have q2 := hh.out.2.1
      have HH := Lib.hid hh.out.2.2
      obtain ⟨g1, c1, e1, hB1, hL1⟩ := own_at q1 (by omega)
      obtain ⟨g2, c2, e2, hB2, hL2⟩ := own_at q2 (by omega)
      injection e1 with e1 _ _
      injection e2 with e2 _ _
      subst e1 e2
      have hne : g1 ≠ g2 := fun e => by have := AB.out g1 rfl; rw [e] at this; exact this rfl
      obtain ⟨u1, hu1⟩ : ∃ u, wr.cell? ⟨g1, k, none⟩ = some u := ⟨_, (q1.cellAt k (by omega)).trans (List.getElem?_eq_getElem (by simp [mixZ, HZ.out]; omega))⟩
      obtain ⟨u2, hu2⟩ : ∃ u, wr.cell? ⟨g2, k, none⟩ = some u := ⟨_, (q2.cellAt k (by omega)).trans (List.getElem?_eq_getElem (by simp [mixZ, HZ.out]; omega))⟩
      have f1 := q1.frozenAt k
      obtain ⟨r1, gr1⟩ := q1.stored k (.int .i32 1)
      have r2 := q2.kept gr1 (.inr (by simp [Value.ownBlock]; exact fun e => hne e.symm))
      have f2 := r2.frozenAt k
      have hu2' : (wr.setCell ⟨g1, k, none⟩ (.int .i32 1)).cell? ⟨g2, k, none⟩ = some u2 := (World.cell?_of_block (a := ⟨g2, k, none⟩) (gr1.block g2 hL2 (by simp; exact fun e => hne e.symm))).trans hu2
      obtain ⟨r3, gr2⟩ := r2.stored k (.int .i32 2)
      have r4 := r1.kept gr2 (.inr (by simp [Value.ownBlock]; exact hne))
      rw [mixZ_set zs k 1 (by rw [HZ.out]; exact hlt)] at r4
      rw [mixZ_set zs k 2 (by rw [HZ.out]; exact hlt)] at r3
      have HR4 := Lib.hid r4
      have HR3 := Lib.hid r3
      have G1 := Lib.hid gr1
      have G2 := Lib.hid gr2
      have hki : (k : Int) < (n : Int) := by omega
      have hk0 : (0 : Int) ≤ (k : Int) := by omega
      clear q1 q2 r1 r2 r3 r4 gr1 gr2 hh hu2
      go_wp2_with fail
      refine ⟨⟨k + 1, by omega, by go_num, ⟨HR4.out, HR3.out, fun j hj h1 h2 => ?_, ?_⟩, ?_⟩, by simp [intOf]; omega⟩
      · have hs1 := G1.out.size
        have := HH.out.2
        exact (G2.out.block j (by omega) h2).trans ((G1.out.block j (by omega) h1).trans (HH.out.1 j hj h1 h2))
      · have hs1 := G1.out.size
        have hs2 := G2.out.size
        have := HH.out.2
        omega
      · exact (hb.setCell (p := ⟨g1, k, none⟩) hB1 _).setCell (p := ⟨g2, k, none⟩) hB2 _
    · obtain rfl : k = n := by omega
      have F0 : Hid (Fr w w5 wr (.slice ao1 k ca1) (.slice ao2 k ca2) (.slice ao1 k ca1) (.slice ao2 k ca2) k 0 0 1 2 3 4) := by
        obtain ⟨q1, q2, q3, q4⟩ := hh.out
        have e1 : mixZ zs k 1 = rep2 k 0 1 3 := by rw [rep2_zero k 1 3 0, ← HZ.out, mixZ_full]
        have e2 : mixZ zs k 2 = rep2 k 0 2 4 := by rw [rep2_zero k 2 4 0, ← HZ.out, mixZ_full]
        rw [e1] at q1
        rw [e2] at q2
        refine ⟨q1, q2, ?_, ?_, .inl rfl, .inl rfl, AB.out, AB.out, A1.out, B1.out, q3, q4, hb⟩
        · intro g hv j hj
          obtain ⟨g1, c1, e1, _, _⟩ := own_at q1 (by omega)
          rw [e1] at q1 hv
          obtain rfl : g1 = g := by simpa [Value.ownBlock] using hv
          rw [q1.cellAt j (by omega), rep2_lo _ _ _ _ _ hj]
        · intro g hv j hj
          obtain ⟨g1, c1, e1, _, _⟩ := own_at q2 (by omega)
          rw [e1] at q2 hv
          obtain rfl : g1 = g := by simpa [Value.ownBlock] using hv
          rw [q2.cellAt j (by omega), rep2_lo _ _ _ _ _ hj]
      have V1F : Hid (0 < k → ∃ g, ao1 = some ⟨g, 0, none⟩) := Lib.hid (fun h => by
        obtain ⟨g1, c1, e1, _, _⟩ := own_at hh.out.1 h
        injection e1 with e1 _ _
        exact ⟨g1, e1⟩)
      have V2F : Hid (0 < k → ∃ g, ao2 = some ⟨g, 0, none⟩) := Lib.hid (fun h => by
        obtain ⟨g1, c1, e1, _, _⟩ := own_at hh.out.2.1 h
        injection e1 with e1 _ _
        exact ⟨g1, e1⟩)
      clear hh hb P1 P2 AB A1 B1 hb05
      go_wp2_with fail
      obtain ⟨W0, hW0⟩ : ∃ W0, W0 = wr := ⟨_, rfl⟩
      subst hW0
      go_loopw [7, 8, 9] (fun p q i wr => ∃ m, m ≤ 60 ∧ i = .int .i64 (m : Nat) ∧ Hid (Fr w w5 wr (.slice ao1 k ca1) (.slice ao2 k ca2) p q k m m 1 2 3 4)) (fun _ _ i _ => 60 - (intOf i).toNat)
      case atStart => exact ⟨0, by omega, rfl, F0⟩
      case round =>
        obtain ⟨m, hm, rfl, hF⟩ := hrel
        by_cases hm6 : m < 60
        · have hmi : (m : Int) < 60 := by omega
          have hp := hF.out.P
          have hbs := hF.out.bel.size
          go_wp2_with (first | (at_builtin; refine wpList_append_where rfl _ _ 27 rfl w.heap.size 21 i0 (.int .i32 0) 1 4 Tryd.underlying27 hi hz0 hz1 hz2 rfl (by decide) u7 _ _ rfl (hp.alloc _) ⟨wr.heap.size, 0, none⟩ 1 1 [.int .i32 3] rfl (by simp) (cells_new _ _ _) (by simp [Value.oneCell']) (by unfold maxLen; omega) (by omega) (by rw [World.size_alloc]; omega) (by decide) ?_; intro p2 w6 own6 hg6 hw6; have F2 := Lib.hid (hF.out.step _ own6 hg6 hw6).swap; have hq := F2.out.P; have hbs6 := F2.out.bel.size; clear hp own6 hg6 hw6) | (at_builtin; refine wpList_append_where rfl _ _ 27 rfl w.heap.size 21 i0 (.int .i32 0) 1 4 Tryd.underlying27 hi hz0 hz1 hz2 rfl (by decide) u8 _ _ rfl (hq.alloc _) ⟨w6.heap.size, 0, none⟩ 1 1 [.int .i32 4] rfl (by simp) (cells_new _ _ _) (by simp [Value.oneCell']) (by unfold maxLen; omega) (by omega) (by rw [World.size_alloc]; omega) (by decide) ?_; intro q2 w7 own7 hg7 hw7; have F3 := Lib.hid (F2.out.step _ own7 hg7 hw7).swap; clear hq own7 hg7 hw7))
          exact ⟨⟨m + 1, by omega, by go_num, F3⟩, by simp [intOf]; omega⟩
        · obtain rfl : m = 60 := by omega
          have hbel := hF.out.bel
          have R3 : Hid (ReadsI wr .i32 ao3 zs) := by
            obtain ⟨a, c, e, _, h⟩ := ReadsI.owned (own_same P3.out (fun g e => hF.out.keep g (C1.out g e).1 (fun e' => (C1.out g e).2.1 e'.symm) (fun e' => (C1.out g e).2.2 e'.symm)))
            injection e with e1 _ _
            rw [e1]
            exact Lib.hid h
          obtain ⟨gp, cp, e7, _, _⟩ := own_at hF.out.P (by omega)
          obtain ⟨gq, cq, e8, _, _⟩ := own_at hF.out.Q (by omega)
          subst e7 e8
          have HCP : Hid (∀ j, j < k + 60 → wr.cell? ⟨gp, j, none⟩ = (rep2 k 60 1 3)[j]?) := Lib.hid (fun j hj => hF.out.P.cellAt j (by omega))
          have HCQ : Hid (∀ j, j < k + 60 → wr.cell? ⟨gq, j, none⟩ = (rep2 k 60 2 4)[j]?) := Lib.hid (fun j hj => hF.out.Q.cellAt j (by omega))
          have HA := Lib.hid hF.out.A
          have HB := Lib.hid hF.out.B
          clear hF P3 C1 F0
          go_wp2_with fail
          go_loop [10] (fun i => ∃ m, m ≤ k + 60 ∧ i = .int .i64 (m : Nat)) (fun i => k + 60 - (intOf i).toNat)
          case atStart => exact ⟨0, by omega, rfl⟩
          case round =>
            obtain ⟨m, hmk, rfl⟩ := hrel
            by_cases hm6 : m < k + 60
            · have cp := HCP.out m hm6
              have cq := HCQ.out m hm6
              have hm0 : (0 : Int) ≤ (m : Int) := by omega
              have hmi : (m : Int) < ((k + 60 : Nat) : Int) := by omega
              by_cases hmk' : m < k
              · obtain ⟨g1, rfl⟩ := V1F.out (by omega)
                obtain ⟨g2, rfl⟩ := V2F.out (by omega)
                have ca := HA.out g1 rfl m hmk'
                have cb := HB.out g2 rfl m hmk'
                rw [rep2_lo _ _ _ _ _ hmk'] at cp cq
                have hki : (m : Int) < (k : Int) := by omega
                go_wp2_with fail
                exact ⟨⟨m + 1, by omega, by go_num⟩, by simp [intOf]; omega⟩
              · rw [rep2_hi _ _ _ _ _ (by omega) hm6] at cp cq
                have hki : (k : Int) ≤ (m : Int) := by omega
                go_wp2_with fail
                exact ⟨⟨m + 1, by omega, by go_num⟩, by simp [intOf]; omega⟩
            · obtain rfl : m = k + 60 := by omega
              go_wp2_with (first | (go_at_call 22; (with_reducible refine (HR.out _).mono ?_); rintro e w8 ⟨v4, rfl, hv4, hb8⟩; obtain ⟨ao4, ca4, e4, -, R4⟩ := ReadsI.owned hv4; rw [HZ.out] at e4; subst e4) | (go_at_call 21; (with_reducible refine (HS3.out ao4 ca4 w8 R4 (R3.out.below hb8 (Nat.le_refl _))).mono ?_); rintro e w9 ⟨rfl, hb9⟩; have hbb := nx (nx hbel hb8) hb9) | (go_at_call 30; (with_reducible refine (HAW.out _ (HT.out.below hbb (Nat.le_refl _))).mono ?_); rintro e w10 ⟨rfl, hb10⟩))
              go_ret
              exact ⟨rfl, nx hbb hb10⟩
end Go.Proofs.YtnfjohlbpbonhaaDoor
