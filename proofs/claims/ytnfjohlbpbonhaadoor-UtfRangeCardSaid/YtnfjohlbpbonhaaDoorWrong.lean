/-
  The law's helper 'wrong': what the iterator Wrong tells against the document's characters, whole and left early.
-/
import Derived.Test.YtnfjohlbpbonhaaDoorIter
import Derived.Deep.AppendLies
import Derived.Deep.RegionLaw
import Derived.Deep.RegionHeld3
import Derived.BigQuiet
namespace Go.Proofs.YtnfjohlbpbonhaaDoor
open Go.RowKit
attribute [local go_sem] Oper.semAt_some

set_option maxHeartbeats 1000000 in
theorem eqIntsW (ao bo : Option Addr) (n ca cb : Nat) (zs : List Int) (hl : zs.length = n) (hn : n ≤ 1048576) (w : World) (hA : ReadsI w .i64 ao zs) (hB : ReadsI w .i64 bo zs) :
    Calls Tryd.prog 58 #[.slice ao n ca, .slice bo n cb] w fun r w' => r = .returned (.bool true) ∧ Below w.heap.size w w' := by
  have HA := Lib.hid hA
  have HB := Lib.hid hB
  have HL := Lib.hid hl
  clear hA hB hl
  go_enter Tryd.func58, Tryd.ntmps58
  go_wp2_with fail
  go_loopw [5] (fun i wr => ∃ k, k ≤ n ∧ i = .int .i64 (k : Nat) ∧ Below w.heap.size w wr) (fun i _ => n - (intOf i).toNat)
  case atStart => exact ⟨0, Nat.zero_le _, rfl, Below.refl _ _⟩
  case round =>
    obtain ⟨k, hk, rfl, hb⟩ := hrel
    by_cases hlt : k < n
    · have hne : zs ≠ [] := by intro e; have := HL.out; rw [e] at this; simp at this; omega
      rcases (HA.out.below hb (Nat.le_refl _)) with h0 | ⟨g, o, rfl, hc⟩
      · exact absurd h0 hne
      · rcases (HB.out.below hb (Nat.le_refl _)) with h0 | ⟨g', o', rfl, hc'⟩
        · exact absurd h0 hne
        · have e0 := hc k (by rw [HL.out]; exact hlt)
          have f0 := hc' k (by rw [HL.out]; exact hlt)
          obtain ⟨y, hy⟩ : ∃ y, zs[k]?.getD 0 = y := ⟨_, rfl⟩
          rw [hy] at e0 f0
          have hki : (k : Int) < (n : Int) := by omega
          have hk0 : (0 : Int) ≤ (k : Int) := by omega
          clear hc hc' hy hne
          go_wp2_with fail
          go_quiet (fail)
          all_goals go_wp2_with fail
          exact ⟨⟨k + 1, by omega, by go_num, below_drewN hb _⟩, by simp [intOf]; omega⟩
    · go_wp2_with fail
      go_ret
      exact ⟨rfl, hb⟩

theorem info_int : (Tryd.prog.info? 3).map (fun i => (i.zero, i.size, i.bytes)) = some (some (.int .i64 0), 1, 8) := by kernel_rfl

/-- 'out = append(out, ..)', out in a box below the row's base: what stands behind the store. -/
theorem app_box {W w1 : World} {base B n₀ : Nat} {t e : TypeId} {size : Nat} {v v' : Value} {k m : Nat} {xs ys : List Value} {tmp : Obj}
    (hv : Boxed W B t v) (hBb : B < base) (hrow : W.ownsRow base e size v k xs) (hbase : base ≤ W.heap.size) (hn : n₀ ≤ B)
    (hown' : w1.ownsRow base e size v' m ys) (hgrow : (W.alloc tmp).grownBy w1 v.ownBlock) :
    Boxed w1 B t v ∧ Boxed (w1.setCell ⟨B, 0, none⟩ v') B t v' ∧ (w1.setCell ⟨B, 0, none⟩ v').ownsRow base e size v' m ys ∧ KeepsOthers W (w1.setCell ⟨B, 0, none⟩ v') ∧ Below n₀ W (w1.setCell ⟨B, 0, none⟩ v') ∧
    (∀ B' t' u, B' < base → B' ≠ B → Boxed W B' t' u → Boxed (w1.setCell ⟨B, 0, none⟩ v') B' t' u) := by
  have hne : ∀ j, j < base → some j ≠ v.ownBlock := fun j hj e => by have := (hrow.lt j e.symm).1; omega
  have hv1 : Boxed w1 B t v := (hv.alloc tmp).kept hgrow (hne B hBb)
  refine ⟨hv1, hv1.set v', hown'.kept (grownBy_setCell' w1 B v') (.inr (fun e => by have := (hown'.lt B e).1; omega)), ?_, ?_, ?_⟩
  · refine ((KeepsOthers.alloc W tmp).trans (KeepsOthers.of_grownBy hgrow fun j o ej hj => ?_)).trans (KeepsOthers.setCell _ _ _)
    rcases (hrow.alloc tmp).2 with ⟨rfl, _⟩ | ⟨g, cap, cur, rfl, _, hgb, _⟩
    · simp [Value.ownBlock] at ej
    · obtain rfl : g = j := by simpa [Value.ownBlock] using ej
      rw [hgb] at hj; cases hj; rfl
  · refine (((Below.refl n₀ W).alloc (by omega) tmp).grown hgrow (by rw [World.size_alloc]; omega) fun j ej => ?_).setCell (p := ⟨B, 0, none⟩) hn v'
    have := (hrow.lt j ej).1
    omega
  · intro B' t' u hB' hBB hb
    exact ((hb.alloc tmp).kept hgrow (hne B' hB')).kept (grownBy_setCell' w1 B v') (fun e => hBB (by injection e))

theorem wrTo_prefix (l : Bs) {a b : Nat} (h : a ≤ b) : wrTo l a <+: wrTo l b := by
  induction b with
  | zero => obtain rfl : a = 0 := by omega
            exact List.prefix_refl _
  | succ b ih =>
    by_cases e : a = b + 1
    · subst e; exact List.prefix_refl _
    · refine (ih (by omega)).trans ?_
      cases hw : isWrong l b
      · rw [wrTo_no l b hw]; exact List.prefix_refl _
      · rw [wrTo_yes l b hw]; exact List.prefix_append _ _

set_option maxRecDepth 100000 in
set_option maxHeartbeats 4000000 in
theorem wrongLaw (s : ByteArray) (hs : s.size ≤ 1048576) (ao : Option Addr) (cap : Nat) (stop : Int) (w : World) (hT : Tabs w) (hC : CharsAt w ao (bs s)) :
    Calls Tryd.prog 39 #[.string s, .slice ao (countN (bs s)) cap, .int .i64 stop] w fun e w' => e = .returned (.bool true) ∧ Below w.heap.size w w' := by
  obtain ⟨i0, hi, hz0, hz1, hz2⟩ := info_parts info_int
  have HT := Lib.hid hT
  have HC := Lib.hid hC
  obtain ⟨n, hn⟩ : ∃ n, countN (bs s) = n := ⟨_, rfl⟩
  have hns := bs_len_le s
  rw [hn] at hns ⊢
  have HN := Lib.hid hn
  clear hT hC hn
  refine callsIn_wide.1 (callsIn_of_wp_marks (n := 9) Tryd.func39 rfl trivial (wpIn_wide.2 ?_) rfl)
  simp only [Tryd.ntmps39, List.size_toArray, List.length_cons, List.length_nil, Nat.reduceAdd, Nat.reduceSub, Array.replicate_succ, Array.replicate_zero, List.push_toArray, List.append_toArray, List.nil_append, List.cons_append]
  go_wp2_with fail
  have B0 := (((Boxed.new w 3 (.int .i64 stop)).alloc (.cells #[.bool false] 4)).alloc (.cells #[.slice none 0 0] 53))
  go_loopw [8] (fun i wr => ∃ k v, k ≤ n ∧ i = .int .i64 (k : Nat) ∧ Boxed wr (w.heap.size + 1 + 1) 53 v ∧ Boxed wr (w.heap.size + 1) 4 (.bool false) ∧ Boxed wr w.heap.size 3 (.int .i64 stop) ∧ wr.ownsRow (w.heap.size + 1 + 1 + 1) 3 1 v (wrTo (bs s) k).length ((wrTo (bs s) k).map fun x => Value.int .i64 (x : Nat)) ∧ w.heap.size + 1 + 1 + 1 ≤ wr.heap.size ∧ Below w.heap.size w wr) (fun i _ => n - (intOf i).toNat)
  case atStart =>
    refine ⟨0, _, Nat.zero_le _, rfl, ?_, ?_, B0, World.ownsRow_nil _ _ _ _, by simp only [World.size_alloc]; exact Nat.le_refl _, al (al (al (Below.refl _ _) _) _) _⟩
    · have := Boxed.new ((w.alloc (.cells #[.int .i64 stop] 3)).alloc (.cells #[.bool false] 4)) 53 (.slice none 0 0)
      simpa only [World.size_alloc] using this
    · have := (Boxed.new (w.alloc (.cells #[.int .i64 stop] 3)) 4 (.bool false)).alloc (.cells #[.slice none 0 0] 53)
      simpa only [World.size_alloc] using this
  case round =>
    obtain ⟨k, v, hk, rfl, b2, b1, b0, hown, hbs, hb⟩ := hrel
    by_cases hlt : k < n
    · obtain ⟨g, rfl, c0, c1, c2, c3⟩ := (HC.out.below hb (Nat.le_refl _)) k (by rw [HN.out]; exact hlt)
      have hwr : isWrong (bs s) k = !(rightR ((tk (bs s))[k]?.getD (0, 0)).1 ((tk (bs s))[k]?.getD (0, 0)).2) := rfl
      have hle := wrTo_le (bs s) k
      obtain ⟨rr, hrr⟩ : ∃ rr, rr = rightR ((tk (bs s))[k]?.getD (0, 0)).1 ((tk (bs s))[k]?.getD (0, 0)).2 := ⟨_, rfl⟩
      rw [← hrr] at c3 hwr
      obtain ⟨q, hq⟩ : ∃ q, atN (bs s) k = q := ⟨_, rfl⟩
      rw [hq] at c0
      have hki : (k : Int) < (n : Int) := by omega
      have hk0 : (0 : Int) ≤ (k : Int) := by omega
      clear hrr c1 c2
      cases rr
      · have HUP := Lib.hid (show wrTo (bs s) (k + 1) = wrTo (bs s) k ++ [q] by rw [wrTo_yes _ _ (by rw [hwr]; rfl), hq])
        clear hwr hq
        have d2 := b2.cell
        have hB2 : w.heap.size ≤ w.heap.size + 1 + 1 := by omega
        have hgl : g < w.heap.size := by
          obtain ⟨g', e', c', _⟩ := HC.out k (by rw [HN.out]; exact hlt)
          obtain rfl : g = g' := by injection e' with e1; injection e1
          exact World.block_lt_of_cell? w _ c'
        have hownD : wr.drew.ownsRow (w.heap.size + 1 + 1 + 1) 3 1 v (wrTo (bs s) k).length ((wrTo (bs s) k).map fun x => Value.int .i64 (x : Nat)) := hown
        have b2D : Boxed wr.drew (w.heap.size + 1 + 1) 53 v := b2
        have b1D : Boxed wr.drew (w.heap.size + 1) 4 (.bool false) := b1
        have b0D : Boxed wr.drew w.heap.size 3 (.int .i64 stop) := b0
        have c0D : wr.drew.cell? ⟨g, k * 4, none⟩ = some (.int .i64 q) := c0
        have hbD := hb.drew
        have d2D := b2D.cell
        have d2A : (wr.alloc (.cells #[.int .i64 q] 3)).drew.cell? ⟨w.heap.size + 1 + 1, 0, none⟩ = some v := (b2D.alloc (.cells #[.int .i64 q] 3)).cell
        have c0A : (wr.alloc (.cells #[.int .i64 q] 3)).drew.cell? ⟨g, k * 4, none⟩ = some (.int .i64 q) := cellKeep c0D ((Below.refl _ _).alloc (Nat.le_refl _) (.cells #[.int .i64 q] 3))
        have hszA : w.heap.size + 1 + 1 + 1 ≤ (wr.alloc (.cells #[.int .i64 q] 3)).drew.heap.size := show w.heap.size + 1 + 1 + 1 ≤ (wr.alloc (.cells #[.int .i64 q] 3)).heap.size by rw [World.size_alloc]; exact Nat.le_succ_of_le hbs
        go_wp2_with fail
        clear hown b2 b1 b0 c0 hb c3 d2
        refine wp_region_noPanic ?_
        go_region_law
          (first | (refine step_append_lies _ (by rfl) _ _ _ (by rfl) (w.heap.size + 1 + 1 + 1) 3 i0 (.int .i64 0) 1 8 Tryd.underlying53 hi hz0 hz1 hz2 rfl (by decide) v _ _ (by rfl) (hownD.alloc (.cells #[.int .i64 q] 3)) ⟨wr.heap.size, 0, none⟩ 1 1 [.int .i64 q] (by rfl) (by simp) (cells_new wr.drew _ 3) (by simp [Value.oneCell']) (by decide) (by unfold maxLen; omega) (by omega) hszA _ rfl ?_; intro g' cap' w1 hown1 hgrow' hat hlt1; have hgrow : (wr.drew.alloc (.cells #[.int .i64 q] 3)).grownBy w1 v.ownBlock := hgrow'; obtain ⟨hv1, hv2, hr2, hk2, hb2, hoth⟩ := app_box (n₀ := w.heap.size) b2D (Nat.lt_succ_self _) hownD hbs hB2 hown1 hgrow; have d2X := hv1.cell; have c0X : w1.cell? ⟨g, k * 4, none⟩ = some (.int .i64 q) := ((((Below.refl w.heap.size wr.drew).alloc (Nat.le_trans (Nat.le_add_right _ 3) hbs) (.cells #[.int .i64 q] 3)).grown hgrow (Nat.le_trans (Nat.le_add_right _ 3) hszA) (fun j e => Nat.le_trans (Nat.le_add_right _ 3) (hownD.lt j e).1)).cell (p := ⟨g, k * 4, none⟩) hgl).trans c0D; have f2X := hv1.frozen))
        all_goals
          refine NoPanic.normal ?_
          have b1Y := hoth (w.heap.size + 1) 4 (.bool false) (by omega) (by omega) b1D
          have b0Y := hoth w.heap.size 3 (.int .i64 stop) (by omega) (by omega) b0D
          have hszY := Nat.le_trans hbs hb2.size
          have hbY := hbD.trans hb2
          have HR2 := Lib.hid hr2
          clear hr2 hgrow hgrow' hoth hk2 hown1 hownD
          go_wp2_with fail
          exact ⟨⟨k + 1, _, by omega, by go_num, hv2, b1Y, b0Y, by rw [HUP.out, List.length_append, List.length_singleton, List.map_append]; exact HR2.out, hszY, hbY⟩, by simp [intOf]; omega⟩
      · have HUP := Lib.hid (wrTo_no (bs s) k (by rw [hwr]; rfl))
        clear hwr hq
        go_wp2_with fail
        exact ⟨⟨k + 1, v, by omega, by go_num, b2, b1, b0, by rw [HUP.out]; exact hown, hbs, hb⟩, by simp [intOf]; omega⟩
    · obtain rfl : k = n := by omega
      have d2 := b2.cell
      have d1 := b1.cell
      have d0 := b0.cell
      have HO := Lib.hid hown
      clear hown
      go_wp2_with ((go_at_call 35; (with_reducible refine (wrong_in s _).mono ?_); rintro e w1 ⟨rfl, rfl⟩))
      have hbA : Below w.heap.size w (wr.alloc (.cells #[.slice none 0 0] 53)) := al hb _
      have b3 := (Boxed.new wr 53 (.slice none 0 0)).alloc (.cells #[.string s] 9)
      have b4 := Boxed.new (wr.alloc (.cells #[.slice none 0 0] 53)) 9 (.string s)
      rw [World.size_alloc] at b4
      have hbL : Below wr.heap.size wr ((wr.alloc (.cells #[.slice none 0 0] 53)).alloc (.cells #[.string s] 9)) := al (al (Below.refl _ _) _) _
      have hbW : Below w.heap.size w ((wr.alloc (.cells #[.slice none 0 0] 53)).alloc (.cells #[.string s] 9)) := al hbA _
      obtain ⟨W1, hW1⟩ : ∃ W1, (wr.alloc (.cells #[.slice none 0 0] 53)).alloc (.cells #[.string s] 9) = W1 := ⟨_, rfl⟩
      have hsz1 : W1.heap.size = wr.heap.size + 1 + 1 := by rw [← hW1, World.size_alloc, World.size_alloc]
      rw [hW1] at b3 b4 hbL hbW ⊢
      clear hW1 hbA
      refine (wpIn_wide (n := 9)).1 ?_
      refine' wpIn_rangeFunc_ownG rfl (by decide) (gf := 55) (lb := #[.pointer (some ⟨wr.heap.size + 1, 0, none⟩)]) rfl trivial (enters_of Tryd.func55 (by kernel_rfl) rfl)
        (wrong_stops (9 - 1) (by decide) (wr.heap.size + 1) w HT.out s W1 hbW b4.cell) kpW_t (kpW_b (by omega) (by omega)) (Below.refl _ _) (fun _ => rfl)
        (fun (pre : List Nat) W => (∃ v', Boxed W wr.heap.size 53 v' ∧ W.ownsRow (wr.heap.size + 1 + 1) 3 1 v' pre.length (pre.map fun x => Value.int .i64 (x : Nat)) ∧ True) ∧ Boxed W (wr.heap.size + 1) 9 (.string s) ∧ Below wr.heap.size wr W)
        (fun _ _ _ => False)
        (OwnFrom.and (Own.from (holdsRow_own _ _ _ _ _ (fun (pre : List Nat) => pre.length) (fun (pre : List Nat) => pre.map fun x => Value.int .i64 (x : Nat)) (fun _ _ => True)) _) (OwnFrom.and (Own.from (boxed_own _ _ (fun _ => .string s)) _) (ownFrom_below (Nat.le_refl _) (by omega))))
        (fun _ _ _ _ _ hs _ _ => hs)
        ⟨⟨_, b3, World.ownsRow_nil _ _ _ _, trivial⟩, b4, hbL⟩ _ ?assign ?body ?done ?stop
      case assign =>
        intro l x W K hK
        dsimp only [encW]
        gi_wp2
        exact hK
      case body =>
        rintro l pre x W ⟨⟨v', c3, hr3, _⟩, c4, hbw⟩ hlen
        have d3 := c3.cell
        have f3 := c3.frozen
        have hszX : wr.heap.size + 1 + 1 ≤ W.heap.size := by have := c4.lt; have := c3.lt; omega
        have hszL := hbL.size
        have hle3 : pre.length ≤ s.size := by rw [← HN.out] at hns; omega
        have HSZ := Lib.hid hsz1
        gi_wp2_with (gi_at_builtin; refine wpListIn_append_own _ rfl _ _ 53 rfl (wr.heap.size + 1 + 1) 3 i0 (.int .i64 0) 1 8 Tryd.underlying53 hi hz0 hz1 hz2 rfl (by decide) _ _ _ rfl (hr3.alloc _) ⟨W.heap.size, 0, none⟩ 1 1 [.int .i64 (x : Nat)] rfl rfl (cells_new _ _ _) (by simp [Value.oneCell']) (by unfold maxLen; omega) (by omega) (by rw [World.size_alloc]; exact Nat.le_succ_of_le hszX) ?_; intro v2 w2 hown2 hgrow2 _; obtain ⟨g2, cap2, rfl⟩ := ownsRow_succ hown2; obtain ⟨hv1, hv2, hr2, hk2, hb2, hoth⟩ := app_box (n₀ := wr.heap.size) c3 (by omega) hr3 hszX (Nat.le_refl _) hown2 hgrow2; have hc1 := hv1.cell; have hf1 := hv1.frozen)
        have b4Y := hoth (wr.heap.size + 1) 9 (.string s) (by omega) (by omega) c4
        exact ⟨hk2.from _, ⟨⟨hk2.walks, hb2.mono hb.size⟩, Eq.trans b4Y c4.symm⟩, ⟨_, hv2, by rw [List.length_append, List.length_singleton, List.map_append]; exact hr2, trivial⟩, b4Y, hbw.trans hb2⟩
      case done =>
        rintro D ys W2 hD rfl ⟨⟨v', c3, hr3, _⟩, c4, hbw⟩ hK
        rw [HN.out] at hr3
        obtain ⟨L, hL⟩ : ∃ L, wrTo (bs s) k = L := ⟨_, rfl⟩
        have HL := Lib.hid hL
        have hLk : L.length ≤ k := by rw [← hL]; exact wrTo_le _ _
        have hownL := HO.out
        rw [hL] at hr3 hownL
        have hmap : (L.map fun (x : Nat) => Value.int .i64 (x : Int)) = (L.map fun (x : Nat) => (x : Int)).map (Value.int .i64) := by simp
        rw [hmap] at hr3 hownL
        obtain ⟨m, hm⟩ : ∃ m, L.length = m := ⟨_, rfl⟩
        rw [hm] at hr3 hownL hLk
        obtain ⟨ao1, ca1, e1, -, HR1⟩ := ReadsI.owned hownL
        obtain ⟨ao2, ca2, e2, -, HR2⟩ := ReadsI.owned hr3
        rw [List.length_map, hm] at e1 e2
        subst e1 e2
        have HR1' := Lib.hid (HR1.below hbw (Nat.le_refl _))
        have HR2' := Lib.hid HR2
        have hD2 : D < W2.heap.size := (Array.getElem?_eq_some_iff.1 hK).1
        have b2W : Boxed W2 (w.heap.size + 1 + 1) 53 (.slice ao1 m ca1) := (hbw.block _ b2.lt).trans b2
        have b1W : Boxed W2 (w.heap.size + 1) 4 (.bool false) := (hbw.block _ b1.lt).trans b1
        have b0W : Boxed W2 w.heap.size 3 (.int .i64 stop) := (hbw.block _ b0.lt).trans b0
        have hbw2 := hb.trans (hbw.mono hb.size)
        have hsW := hbw.size
        have hc3 := c3.lt
        have HM := Lib.hid hm
        have hWW1 : w.heap.size + 1 + 1 + 1 ≤ W1.heap.size := by omega
        clear hm hmap hownL hr3 HR1 HR2 hbL hbW b3 b4 hsz1 hbw b2 b1 b0 d2 d1 d0 c4 hL
        have B5 := (Boxed.new W2 3 (.int .i64 0)).alloc (.cells #[.string s] 9)
        have B6 := Boxed.new (W2.alloc (.cells #[.int .i64 0] 3)) 9 (.string s)
        rw [World.size_alloc] at B6
        have hbL : Below W2.heap.size W2 ((W2.alloc (.cells #[.int .i64 0] 3)).alloc (.cells #[.string s] 9)) := al (al (Below.refl _ _) _) _
        go_wp2_with ((go_at_call 35; (with_reducible refine (wrong_in s _).mono ?_); rintro e w1 ⟨rfl, rfl⟩))
        obtain ⟨W3, hW3⟩ : ∃ W3, (W2.alloc (.cells #[.int .i64 0] 3)).alloc (.cells #[.string s] 9) = W3 := ⟨_, rfl⟩
        have hsz3 : W3.heap.size = W2.heap.size + 1 + 1 := by rw [← hW3, World.size_alloc, World.size_alloc]
        rw [hW3] at B5 B6 hbL ⊢
        have hbW := hbw2.trans (hbL.mono hbw2.size)
        clear hW3
        refine (wpIn_wide (n := 9)).1 ?_
        refine' wpIn_rangeFunc_ownG rfl (by decide) (gf := 55) (lb := #[.pointer (some ⟨W2.heap.size + 1, 0, none⟩)]) rfl trivial (enters_of Tryd.func55 (by kernel_rfl) rfl)
          (wrong_stops (9 - 1) (by decide) (W2.heap.size + 1) w HT.out s W3 hbW B6.cell) kpW_t (kpW_b (by omega) (by have := hbW.size; omega)) (Below.refl _ _) (fun _ => rfl)
          (fun (pre : List Nat) W => (pre = L.take pre.length) ∧ Boxed W W2.heap.size 3 (.int .i64 (pre.length : Nat)) ∧ Boxed W (W2.heap.size + 1) 9 (.string s) ∧ Below W2.heap.size W2 W)
          (fun c (pre : List Nat) W => (c = .ret ∧ ¬ pre <+: L) ∨ (c = .exit 4 ∧ Below W2.heap.size W2 W))
          (OwnFrom.and (ownFrom_pure _ _) (OwnFrom.and (Own.from (boxed_own _ _ (fun (pre : List Nat) => .int .i64 (pre.length : Nat))) _) (OwnFrom.and (Own.from (boxed_own _ _ (fun _ => .string s)) _) (ownFrom_below (Nat.le_refl _) (by omega)))))
          (fun c s' A B row hs hg hr => hs.imp id (fun h => ⟨h.1, ownFrom_below (β := List Nat) (Nat.le_refl _) (show W2.heap.size ≤ W3.heap.size by omega) s' A B row h.2 hg hr⟩))
          ⟨by simp, B5, B6, hbL⟩ _ ?assign2 ?body2 ?done2 ?stop2
        case assign2 =>
          intro l x W K hK
          dsimp only [encW]
          gi_wp2
          exact hK
        case body2 =>
          rintro l pre x W ⟨hpre, c5, c6, hbw⟩ hlen
          have d5 := c5.cell
          have f5 := c5.frozen
          have c2 : Boxed W (w.heap.size + 1 + 1) 53 (.slice ao1 m ca1) := (hbw.block _ b2W.lt).trans b2W
          have c1 : Boxed W (w.heap.size + 1) 4 (.bool false) := (hbw.block _ b1W.lt).trans b1W
          have c0 : Boxed W w.heap.size 3 (.int .i64 stop) := (hbw.block _ b0W.lt).trans b0W
          have d2 := c2.cell
          have d1 := c1.cell
          have d0 := c0.cell
          have f1 := c1.frozen
          have HPRE := Lib.hid hpre
          have hle : pre.length ≤ 1048576 := by have := HN.out; omega
          clear hpre hlen
          by_cases hge : pre.length < m
          · obtain ⟨y, hy⟩ : ∃ y, L[pre.length]? = some y := ⟨_, List.getElem?_eq_getElem (by rw [HM.out]; exact hge)⟩
            rcases HR1'.out.below hbw (Nat.le_refl _) with h0 | ⟨g, o, rfl, hcs⟩
            · rw [List.map_eq_nil_iff] at h0
              rw [h0] at hy
              cases hy
            · have e0 := hcs pre.length (by rw [List.length_map, HM.out]; exact hge)
              rw [List.getElem?_map, hy] at e0
              simp only [Option.map_some, Option.getD_some] at e0
              have hki : (pre.length : Int) < (m : Int) := by omega
              have hk0 : (0 : Int) ≤ (pre.length : Int) := by omega
              have HY := Lib.hid hy
              clear hcs hy
              by_cases hyx : y = x
              · subst hyx
                have HP := Lib.hid (show pre ++ [y] = L.take (pre ++ [y]).length by
                  have h1 : pre.length < L.length := by rw [HM.out]; exact hge
                  rw [List.length_append, List.length_singleton, List.take_succ_eq_append_getElem h1, ← HPRE.out]
                  congr 2
                  have := HY.out
                  rw [List.getElem?_eq_getElem h1] at this
                  exact (Option.some.inj this).symm)
                by_cases hst : ((pre.length : Int) + 1) = stop
                · gi_wp2
                  exact ⟨(KeepsOthers.setCell _ _ _).from _, .inr ⟨rfl, hbw.setCell (p := ⟨W2.heap.size, 0, none⟩) (Nat.le_refl _) _⟩⟩
                · gi_wp2
                  refine ⟨(KeepsOthers.setCell _ _ _).from _, ⟨⟨(KeepsOthers.setCell _ _ _).walks, (Below.refl _ W).setCell (p := ⟨W2.heap.size, 0, none⟩) hbw2.size _⟩, (grownBy_setCell' W W2.heap.size _).block _ c6.lt (by simp)⟩, HP.out, ?_, c6.kept (grownBy_setCell' W W2.heap.size _) (by simp), hbw.setCell (p := ⟨W2.heap.size, 0, none⟩) (Nat.le_refl _) _⟩
                  rw [List.length_append, List.length_singleton, Int.natCast_add]
                  exact c5.set _
              · have hd : ((y : Int) != (x : Int)) = true := bne_iff_ne.2 (by omega)
                clear hyx
                gi_wp2
                refine ⟨(KeepsOthers.setCell _ _ _).from _, .inl ⟨rfl, fun h => ?_⟩⟩
                obtain ⟨r, hr⟩ := h
                have := HY.out
                rw [← hr, List.append_assoc, List.getElem?_append_right (Nat.le_refl _), Nat.sub_self] at this
                simp at this
                rw [this] at hd
                simp at hd
          · have hki : (m : Int) ≤ (pre.length : Int) := by omega
            gi_wp2
            exact ⟨(KeepsOthers.setCell _ _ _).from _, .inl ⟨rfl, fun h => by have := h.length_le; rw [List.length_append, List.length_singleton, HM.out] at this; omega⟩⟩
        case done2 =>
          rintro D' ys W hD' rfl ⟨-, c5, c6, hbw⟩ hK'
          clear c5 c6
          have e3 := (show Boxed W wr.heap.size 53 (.slice ao2 m ca2) from (hbw.block _ c3.lt).trans c3).cell
          have e2 := (show Boxed W (w.heap.size + 1 + 1) 53 (.slice ao1 m ca1) from (hbw.block _ b2W.lt).trans b2W).cell
          have c1 : Boxed W (w.heap.size + 1) 4 (.bool false) := (hbw.block _ b1W.lt).trans b1W
          have e1 := c1.cell
          have f1 := c1.frozen
          have hKD : W.heap[D]? = some (.deferred (some [])) := (hbw.block _ hD2).trans hK
          have HE := Lib.hid (eqIntsW ao2 ao1 m ca2 ca1 (L.map fun (x : Nat) => (x : Int)) (by rw [List.length_map]; exact HM.out) (by omega) W (HR2'.out.below hbw (Nat.le_refl _)) (HR1'.out.below hbw (Nat.le_refl _)))
          go_wp2_with (go_at_call 58; (with_reducible refine HE.out.mono ?_); rintro e w4 ⟨rfl, hb4⟩; have c1Y : Boxed w4 (w.heap.size + 1) 4 (.bool false) := (hb4.block _ c1.lt).trans c1; have e1Y := c1Y.cell; have f1Y := c1Y.frozen)
          have hK4 : (w4.setCell ⟨w.heap.size + 1, 0, none⟩ (.bool true)).heap[D']? = some (.deferred (some [])) := (KeepsOthers.setCell w4 ⟨w.heap.size + 1, 0, none⟩ (.bool true)).same D' _ ((hb4.block _ (Array.getElem?_eq_some_iff.1 hK').1).trans hK') rfl
          have hK5 : (w4.setCell ⟨w.heap.size + 1, 0, none⟩ (.bool true)).heap[D]? = some (.deferred (some [])) := (KeepsOthers.setCell w4 ⟨w.heap.size + 1, 0, none⟩ (.bool true)).same D _ ((hb4.block _ (Array.getElem?_eq_some_iff.1 hKD).1).trans hKD) rfl
          have hb5 : Below w.heap.size w (w4.setCell ⟨w.heap.size + 1, 0, none⟩ (.bool true)) := ((hbw2.trans (hbw.mono hbw2.size)).trans (hb4.mono (Nat.le_trans hbw2.size hbw.size))).setCell (p := ⟨w.heap.size + 1, 0, none⟩) (Nat.le_succ _) _
          have c5 : Boxed (w4.setCell ⟨w.heap.size + 1, 0, none⟩ (.bool true)) (w.heap.size + 1) 4 (.bool true) := c1Y.set _
          have hl3 := hbL.size
          have hl2 := hbw2.size
          obtain ⟨W5, hW5⟩ : ∃ W5, w4.setCell ⟨w.heap.size + 1, 0, none⟩ (.bool true) = W5 := ⟨_, rfl⟩
          rw [hW5] at hK4 hK5 hb5 c5 ⊢
          have hDD : D ≠ D' := by omega
          have hK6 : (W5.putObj D' (.deferred none)).heap[D]? = some (.deferred (some [])) := (World.putObj_heap_other hDD).trans hK5
          have c6 : Boxed ((W5.putObj D' (.deferred none)).putObj D (.deferred none)) (w.heap.size + 1) 4 (.bool true) := (World.putObj_heap_other (by omega)).trans ((World.putObj_heap_other (by omega)).trans c5)
          refine ⟨by simp, .inl ⟨_, _, rfl, run_takeDeferred hK4, ?_⟩⟩
          refine ⟨by simp, .inl ⟨_, _, rfl, run_takeDeferred hK6, ?_⟩⟩
          have hc6 := c6.cell
          refine ⟨.bool true, ?_, rfl, (hb5.trans (belowK_b (w := w) (Nat.le_refl _) W5 D' _ _ (by omega) hK4 rfl rfl)).trans (belowK_b (w := w) (Nat.le_refl _) _ D _ _ (by omega) hK6 rfl rfl)⟩
          simp [results, Tryd.f39, go_sem, hc6]
        case stop2 =>
          rintro D' c pre W hD' ⟨k', hk', rfl⟩ hx hK'
          rcases hx with ⟨rfl, hnp⟩ | ⟨rfl, hbw⟩
          · exact absurd (by rw [← HL.out]; exact wrTo_prefix _ (by rw [← HN.out]; exact hk')) hnp
          · refine wpIn_wide.2 ?_
            have e3 := (show Boxed W wr.heap.size 53 (.slice ao2 m ca2) from (hbw.block _ c3.lt).trans c3).cell
            have e2 := (show Boxed W (w.heap.size + 1 + 1) 53 (.slice ao1 m ca1) from (hbw.block _ b2W.lt).trans b2W).cell
            have c1 : Boxed W (w.heap.size + 1) 4 (.bool false) := (hbw.block _ b1W.lt).trans b1W
            have e1 := c1.cell
            have f1 := c1.frozen
            have hKD : W.heap[D]? = some (.deferred (some [])) := (hbw.block _ hD2).trans hK
            have HE := Lib.hid (eqIntsW ao2 ao1 m ca2 ca1 (L.map fun (x : Nat) => (x : Int)) (by rw [List.length_map]; exact HM.out) (by omega) W (HR2'.out.below hbw (Nat.le_refl _)) (HR1'.out.below hbw (Nat.le_refl _)))
            go_wp2_with (go_at_call 58; (with_reducible refine HE.out.mono ?_); rintro e w4 ⟨rfl, hb4⟩; have c1Y : Boxed w4 (w.heap.size + 1) 4 (.bool false) := (hb4.block _ c1.lt).trans c1; have e1Y := c1Y.cell; have f1Y := c1Y.frozen)
            have hK4 : (w4.setCell ⟨w.heap.size + 1, 0, none⟩ (.bool true)).heap[D']? = some (.deferred (some [])) := (KeepsOthers.setCell w4 ⟨w.heap.size + 1, 0, none⟩ (.bool true)).same D' _ ((hb4.block _ (Array.getElem?_eq_some_iff.1 hK').1).trans hK') rfl
            have hK5 : (w4.setCell ⟨w.heap.size + 1, 0, none⟩ (.bool true)).heap[D]? = some (.deferred (some [])) := (KeepsOthers.setCell w4 ⟨w.heap.size + 1, 0, none⟩ (.bool true)).same D _ ((hb4.block _ (Array.getElem?_eq_some_iff.1 hKD).1).trans hKD) rfl
            have hb5 : Below w.heap.size w (w4.setCell ⟨w.heap.size + 1, 0, none⟩ (.bool true)) := ((hbw2.trans (hbw.mono hbw2.size)).trans (hb4.mono (Nat.le_trans hbw2.size hbw.size))).setCell (p := ⟨w.heap.size + 1, 0, none⟩) (Nat.le_succ _) _
            have c5 : Boxed (w4.setCell ⟨w.heap.size + 1, 0, none⟩ (.bool true)) (w.heap.size + 1) 4 (.bool true) := c1Y.set _
            have hl3 := hbL.size
            have hl2 := hbw2.size
            obtain ⟨W5, hW5⟩ : ∃ W5, w4.setCell ⟨w.heap.size + 1, 0, none⟩ (.bool true) = W5 := ⟨_, rfl⟩
            rw [hW5] at hK4 hK5 hb5 c5 ⊢
            have hDD : D ≠ D' := by omega
            have hK6 : (W5.putObj D' (.deferred none)).heap[D]? = some (.deferred (some [])) := (World.putObj_heap_other hDD).trans hK5
            have c6 : Boxed ((W5.putObj D' (.deferred none)).putObj D (.deferred none)) (w.heap.size + 1) 4 (.bool true) := (World.putObj_heap_other (by omega)).trans ((World.putObj_heap_other (by omega)).trans c5)
            refine ⟨by simp, .inl ⟨_, _, rfl, run_takeDeferred hK4, ?_⟩⟩
            refine ⟨by simp, .inl ⟨_, _, rfl, run_takeDeferred hK6, ?_⟩⟩
            have hc6 := c6.cell
            refine ⟨.bool true, ?_, rfl, (hb5.trans (belowK_b (w := w) (Nat.le_refl _) W5 D' _ _ (by omega) hK4 rfl rfl)).trans (belowK_b (w := w) (Nat.le_refl _) _ D _ _ (by omega) hK6 rfl rfl)⟩
            simp [results, Tryd.f39, go_sem, hc6]
      case stop =>
        rintro D c pre W hD _ h _
        exact h.elim
end Go.Proofs.YtnfjohlbpbonhaaDoor
